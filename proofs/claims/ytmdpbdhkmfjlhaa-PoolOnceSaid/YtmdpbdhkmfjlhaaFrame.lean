/- From a row's reading of its arguments to the words of our own logic, and back. No program is named. -/
import Derived.Test.YtmdpbdhkmfjlhaaFlat
import Derived.Test.YtmdpbdhkmfjlhaaCall
import Derived.WalkKit
import Derived.ProofKit
import Derived.OpenShut
import Derived.ShutString
import Derived.ChangeOld
import Derived.Below
import Derived.Carry
import Derived.Deep.Slices
namespace Go.Bw
open Go Go.RowKit Go.ChangeShapes Go.WideShapes Go.Deep

theorem Below.of_since {w w' : World} (h : Since [] w w') : Below w.heap.size w w' := ⟨h.os, h.tape, h.output, h.size, fun k hk => h.block k hk (by simp)⟩

theorem cell_lt {w : World} {a : Addr} {v : Value} (h : w.cell? a = some v) : a.block < w.heap.size := by
  rcases Nat.lt_or_ge a.block w.heap.size with h1 | h1
  · exact h1
  · have : w.heap[a.block]? = none := Array.getElem?_eq_none h1
    simp [World.cell?, this] at h

section
variable {H : Type} {enc : TypeId × Value → H} {P : Program} {w : World} {base : Nat} {spare : Nat → Bool} {held : Bool}
theorem trod_parts {t fuel : Nat} {fs : Array Field} {cs : List Value} {x : DataW H × List MemPlace} (ht : P.underlying t = some (.struct fs)) (h : DataW.trod enc P w base spare held fuel t cs = some x) :
    cs.length = P.cellsOf t ∧ ∀ (i : Nat) (f : Field), fs[i]? = some f → ∃ n y, DataW.trod enc P w base spare held n f.type ((cs.drop f.offset).take (P.cellsOf f.type)) = some y := by
  obtain ⟨ys, n, _, _, hl, hy, hf⟩ := DataW.trod_struct ht h
  refine ⟨hl, fun i f hi => ?_⟩
  have hlt : i < ys.length := by rw [hy]; exact (Array.getElem?_eq_some_iff.1 hi).1
  exact ⟨n, ys[i], (hf i f hi).trans (List.getElem?_eq_getElem hlt)⟩
theorem trod_elems {t e m fuel : Nat} {cs : List Value} {x : DataW H × List MemPlace} (ht : P.underlying t = some (.array m e)) (h : DataW.trod enc P w base spare held fuel t cs = some x) :
    cs.length = P.cellsOf t ∧ ∀ (i : Nat), i < m → ∃ n y, DataW.trod enc P w base spare held n e ((cs.drop (i * P.cellsOf e)).take (P.cellsOf e)) = some y := by
  obtain ⟨ys, n, _, _, hl, hy, hf⟩ := DataW.trod_array ht h
  refine ⟨hl, fun i hi => ?_⟩
  have hlt : i < ys.length := by omega
  exact ⟨n, ys[i], (hf i hi).trans (List.getElem?_eq_getElem hlt)⟩
/-- a slice that came in: its elements, each as its type has it -/
theorem open_ro {α : Type} [Inhabited α] {t e sz fuel len cap : Nat} {a : Option Addr} {x : DataW H × List MemPlace} (E : α → List Value) (R : α → Prop) (ht : P.underlying t = some (.slice e)) (hC : P.cellsOf e = sz) (h0 : 0 < sz)
    (hE : ∀ z, (E z).length = sz) (hQ : ∀ (n : Nat) (cs : List Value) y, DataW.trod enc P w base spare held n e cs = some y → ∃ z, cs = E z ∧ R z) (h : DataW.trod enc P w base spare held fuel t [.slice a len cap] = some x) :
    ∃ g : Nat → α, Ro w (.slice a len cap) sz len (flat (fun i => E (g i)) len) ∧ (∀ i, i < len → R (g i)) ∧ len ≤ maxLen := by
  rcases open_slice ht h with ⟨hcs, _⟩ | ⟨a', len', cap', m, n, D, Pl, hcs, _, hl, hm, hmm, _, hi⟩
  · simp at hcs
    obtain ⟨rfl, rfl, rfl⟩ := hcs
    exact ⟨fun _ => default, ⟨by simp [flat], .inl ⟨⟨_, _, rfl⟩, rfl⟩⟩, fun i hi => by omega, Nat.zero_le _⟩
  · simp at hcs
    obtain ⟨rfl, rfl, rfl⟩ := hcs
    have hlm : len ≤ m := by rw [hmm]; split <;> omega
    have hex : ∀ i, i < len → ∃ z, R z ∧ ∀ j, j < sz → w.cell? (a'.add (i * sz + j)) = (E z)[j]? := fun i hil => by
      obtain ⟨cs', hc, ht'⟩ := hi i (by omega)
      obtain ⟨z, rfl, hz⟩ := hQ _ _ _ ht'
      rw [hC] at hc
      obtain ⟨_, _, hat⟩ := World.cells?_some hc
      refine ⟨z, hz, fun j hj => ?_⟩
      rw [← hat j hj, ← Go.Deep.add_add]
    let g : Nat → α := fun i => if hh : i < len then Classical.choose (hex i hh) else default
    have hg : ∀ i, i < len → R (g i) ∧ ∀ j, j < sz → w.cell? (a'.add (i * sz + j)) = (E (g i))[j]? := fun i hil => by
      have := Classical.choose_spec (hex i hil)
      simp only [g, hil, dif_pos]
      exact this
    refine ⟨g, ⟨flat_len fun i _ => hE _, ?_⟩, fun i hil => (hg i hil).1, by omega⟩
    have hcells : ∀ (j : Nat) u, (flat (fun i => E (g i)) len)[j]? = some u → w.cell? (a'.add j) = some u := fun j u hu => by
      have hlen : (flat (fun i => E (g i)) len).length = len * sz := flat_len fun i _ => hE _
      have hj : j < len * sz := by rw [← hlen]; exact (List.getElem?_eq_some_iff.1 hu).1
      have hd : j = (j / sz) * sz + j % sz := by rw [Nat.mul_comm]; exact (Nat.div_add_mod j sz).symm
      have hq : j / sz < len := (Nat.div_lt_iff_lt_mul h0).2 hj
      have hr : j % sz < sz := Nat.mod_lt _ h0
      rw [hd, flat_get (g := fun i => E (g i)) (fun i _ => hE _) hq hr] at hu
      rw [hd, (hg _ hq).2 _ hr, hu]
    rcases Nat.eq_zero_or_pos len with e0 | e0
    · subst e0; exact .inl ⟨⟨_, _, rfl⟩, rfl⟩
    · obtain ⟨b, off, spot⟩ := a'
      have hz : (flat (fun i => E (g i)) len)[0]? = some ((flat (fun i => E (g i)) len)[0]'(by rw [flat_len (k := sz) (fun i _ => hE _)]; exact Nat.mul_pos e0 h0)) := List.getElem?_eq_getElem _
      have h1 := hcells 0 _ hz
      have hspot : spot = none := by simpa [Addr.add] using World.cell?_spot h1
      subst hspot
      refine .inr ⟨b, off, cap, rfl, ?_, by omega, fun j u hu => ?_⟩
      · simpa [Addr.add] using cell_lt h1
      · have := hcells j u hu
        rwa [Addr.add_lit] at this
end
end Go.Bw

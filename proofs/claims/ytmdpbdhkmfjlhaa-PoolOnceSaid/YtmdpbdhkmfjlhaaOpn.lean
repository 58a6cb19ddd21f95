/- What the reading of an argument says of its cells, type by type. No program is named. -/
import Derived.Test.YtmdpbdhkmfjlhaaFrame
import Derived.Test.YtmdpbdhkmfjlhaaSl
namespace Go.Bw
open Go Go.RowKit Go.ChangeShapes Go.WideShapes Go.Deep

/-- whatever reads as of a type lies as a layout says, within its ranges -/
def Opn {α : Type} (P : Program) (W : World) (t : TypeId) (L : Lay α) (R : α → Prop) : Prop :=
  ∀ (H : Type) (enc : TypeId × Value → H) (base : Nat) (spare : Nat → Bool) (held : Bool) (n : Nat) (cs : List Value) (y : DataW H × List MemPlace), DataW.trod enc P W base spare held n t cs = some y → ∃ z, L.rep (fun w => Since [] W w) cs z ∧ R z

section
variable {P : Program} {W : World} {t e : TypeId} {α β : Type}
theorem Opn_i8 (hu : P.underlying t = some (.int .i8)) : Opn P W t (LI .i8) (fun z => -128 ≤ z ∧ z ≤ 127) := fun _ _ _ _ _ _ _ _ h => by obtain ⟨a, e, _, b⟩ := DataW.trod_int hu h; exact ⟨a, e, bounds_i8 b⟩
theorem Opn_i16 (hu : P.underlying t = some (.int .i16)) : Opn P W t (LI .i16) (fun z => -32768 ≤ z ∧ z ≤ 32767) := fun _ _ _ _ _ _ _ _ h => by obtain ⟨a, e, _, b⟩ := DataW.trod_int hu h; exact ⟨a, e, bounds_i16 b⟩
theorem Opn_i32 (hu : P.underlying t = some (.int .i32)) : Opn P W t (LI .i32) (fun z => -2147483648 ≤ z ∧ z ≤ 2147483647) := fun _ _ _ _ _ _ _ _ h => by obtain ⟨a, e, _, b⟩ := DataW.trod_int hu h; exact ⟨a, e, bounds_i32 b⟩
theorem Opn_i64 (hu : P.underlying t = some (.int .i64)) : Opn P W t (LI .i64) (fun z => -9223372036854775808 ≤ z ∧ z ≤ 9223372036854775807) := fun _ _ _ _ _ _ _ _ h => by obtain ⟨a, e, _, b⟩ := DataW.trod_int hu h; exact ⟨a, e, bounds_i64 b⟩
theorem Opn_u8 (hu : P.underlying t = some (.int .u8)) : Opn P W t (LI .u8) (fun z => 0 ≤ z ∧ z ≤ 255) := fun _ _ _ _ _ _ _ _ h => by obtain ⟨a, e, _, b⟩ := DataW.trod_int hu h; exact ⟨a, e, bounds_u8 b⟩
theorem Opn_u16 (hu : P.underlying t = some (.int .u16)) : Opn P W t (LI .u16) (fun z => 0 ≤ z ∧ z ≤ 65535) := fun _ _ _ _ _ _ _ _ h => by obtain ⟨a, e, _, b⟩ := DataW.trod_int hu h; exact ⟨a, e, bounds_u16 b⟩
theorem Opn_u32 (hu : P.underlying t = some (.int .u32)) : Opn P W t (LI .u32) (fun z => 0 ≤ z ∧ z ≤ 4294967295) := fun _ _ _ _ _ _ _ _ h => by obtain ⟨a, e, _, b⟩ := DataW.trod_int hu h; exact ⟨a, e, bounds_u32 b⟩
theorem Opn_u64 (hu : P.underlying t = some (.int .u64)) : Opn P W t (LI .u64) (fun z => 0 ≤ z ∧ z ≤ 18446744073709551615) := fun _ _ _ _ _ _ _ _ h => by obtain ⟨a, e, _, b⟩ := DataW.trod_int hu h; exact ⟨a, e, bounds_u64 b⟩
theorem Opn_bool (hu : P.underlying t = some .bool) : Opn P W t LB (fun _ => True) := fun _ _ _ _ _ _ _ _ h => by obtain ⟨a, e, _⟩ := DataW.trod_bool hu h; exact ⟨a, e, trivial⟩
theorem flat_cut {sz : Nat} : ∀ (m : Nat) (cs : List Value), cs.length = m * sz → cs = flat (fun i => (cs.drop (i * sz)).take sz) m := by
  intro m cs h
  refine list_ext fun j => ?_
  have hl : (flat (fun i => (cs.drop (i * sz)).take sz) m).length = m * sz := flat_len fun i hi => by
    rw [List.length_take, List.length_drop, h]
    have : (i + 1) * sz ≤ m * sz := Nat.mul_le_mul_right _ hi
    rw [Nat.add_mul] at this
    omega
  rcases Nat.lt_or_ge j (m * sz) with hj | hj
  · have h0 : 0 < sz := by
      rcases Nat.eq_zero_or_pos sz with h1 | h1
      · rw [h1] at hj; omega
      · exact h1
    have hd : j = (j / sz) * sz + j % sz := by rw [Nat.mul_comm]; exact (Nat.div_add_mod j sz).symm
    have hq : j / sz < m := (Nat.div_lt_iff_lt_mul h0).2 hj
    have hr : j % sz < sz := Nat.mod_lt _ h0
    rw [hd, flat_get (g := fun i => (cs.drop (i * sz)).take sz) (fun i hi => by
      rw [List.length_take, List.length_drop, h]
      have : (i + 1) * sz ≤ m * sz := Nat.mul_le_mul_right _ hi
      rw [Nat.add_mul] at this
      omega) hq hr, List.getElem?_take, if_pos hr, List.getElem?_drop]
  · rw [List.getElem?_eq_none (by omega), List.getElem?_eq_none (by omega)]
theorem Opn_arr [Inhabited α] {L : Lay α} {R : α → Prop} {m sz : Nat} (hu : P.underlying t = some (.array m e)) (hc : P.cellsOf e = sz) (hn : L.n = sz) (hl : P.cellsOf t = m * sz) (h : Opn P W e L R) : Opn P W t (LA L m) (fun z => ∀ i, i < m → R (z i)) := by
  intro H enc base spare held n cs y hy
  obtain ⟨h1, h2⟩ := trod_elems hu hy
  rw [hc] at h2
  have hex : ∀ i, i < m → ∃ z, L.rep (fun w => Since [] W w) ((cs.drop (i * sz)).take sz) z ∧ R z := fun i hi => by
    obtain ⟨n', y', h3⟩ := h2 i hi
    exact h H enc base spare held n' _ y' h3
  let g : Nat → α := fun i => if hh : i < m then Classical.choose (hex i hh) else default
  have hg : ∀ i, i < m → L.rep (fun w => Since [] W w) ((cs.drop (i * sz)).take sz) (g i) ∧ R (g i) := fun i hi => by
    have := Classical.choose_spec (hex i hi)
    simp only [g, hi, dif_pos]
    exact this
  exact ⟨g, ⟨_, flat_cut m cs (h1.trans hl), fun i hi => (hg i hi).1⟩, fun i hi => (hg i hi).2⟩
theorem Opn_sl [Inhabited α] {L : Lay α} [FlatL L] {R : α → Prop} {sz : Nat} (hu : P.underlying t = some (.slice e)) (hc : P.cellsOf e = sz) (hn : L.n = sz) (h0 : 0 < sz) (h : Opn P W e L R) : Opn P W t (LSl L) (fun z => ∀ x ∈ z, R x) := by
  intro H enc base spare held n cs y hy
  have hcs : ∃ a len cap, cs = [.slice a len cap] := by
    rcases open_slice hu hy with ⟨hcs, _⟩ | ⟨a', len', cap', m, n, D, Pl, hcs, _⟩
    · exact ⟨_, _, _, hcs⟩
    · exact ⟨_, _, _, hcs⟩
  obtain ⟨a, len, cap, rfl⟩ := hcs
  obtain ⟨g, w, q, _⟩ := open_ro (α := α) (sz := sz) L.enc R hu hc h0 (fun z => (enc_len L z).trans hn) (fun n cs y hy => by
    obtain ⟨z, hz, hr⟩ := h H enc base spare held n cs y hy
    exact ⟨z, FlatL.iff.1 hz, hr⟩) hy
  refine ⟨_, ⟨_, rfl, Fz.of_ro (L := L) hn.symm ⟨_, _, rfl⟩ w⟩, fun x hx => ?_⟩
  obtain ⟨i, hi, rfl⟩ := List.mem_map.1 hx
  exact q i (List.mem_range.1 hi)

theorem LP_open {A : Lay α} {B : Lay β} {J : World → Prop} {cs : List Value} {o na : Nat} {x : α} {y : β} (hn : A.n = na) (h1 : A.rep J ((cs.drop o).take na) x) (h2 : B.rep J (cs.drop (o + na)) y) : (LP A B).rep J (cs.drop o) (x, y) :=
  ⟨_, _, (List.take_append_drop na _).symm, h1, by rw [List.drop_drop]; exact h2⟩
theorem L_last {A : Lay α} {J : World → Prop} {cs : List Value} {o na : Nat} {x : α} (hl : cs.length = o + na) (h1 : A.rep J ((cs.drop o).take na) x) : A.rep J (cs.drop o) x := by
  rwa [List.take_of_length_le (by rw [List.length_drop]; omega)] at h1
theorem sl_of {L : Lay α} [FlatL L] {A : World → Prop} {a : Option Addr} {len cap : Nat} {z : List α} (h : (LSl L).rep A (Value.slice a len cap).cells.toList z) : Fz A (.slice a len cap) L z := by
  obtain ⟨v, e, f⟩ := h
  have e : [Value.slice a len cap] = [v] := e
  cases e
  exact f
theorem agg_of {L : Lay α} {A : World → Prop} {cs : List Value} {z : α} (h : L.rep A (Value.agg ⟨cs⟩).cells.toList z) : L.rep A cs z := h
end
end Go.Bw

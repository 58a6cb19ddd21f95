/- Loops over maps. No program is named. -/
import Derived.Test.YtmdpbdhkmfjlhaaMap
namespace Go.Bw
open Go Go.RowKit Go.ChangeMaps

/-! the plain words: a round may take any entry that is left -/
noncomputable def allSame {ι ρ : Type} (f : ι → Option ρ) : Option ρ := open Classical in if h : ∃ r, ∀ i, f i = some r then some (Classical.choose h) else none
theorem allSame_e {ι ρ : Type} {f : ι → Option ρ} {r : ρ} (h : allSame f = some r) (i : ι) : f i = some r := by
  unfold allSame at h
  split at h
  · rename_i h'
    have := Classical.choose_spec h' i
    rw [Option.some.inj h] at this
    exact this
  · cases h
theorem allSame_i {ι ρ : Type} {f : ι → Option ρ} {r : ρ} (hn : Nonempty ι) (h : ∀ i, f i = some r) : allSame f = some r := by
  unfold allSame
  have h' : ∃ r, ∀ i, f i = some r := ⟨r, h⟩
  rw [dif_pos h']
  obtain ⟨i⟩ := hn
  have := Classical.choose_spec h' i
  rw [h i] at this
  exact this.symm
section
variable {α1 β ρ : Type}
noncomputable def itm1 (B : β → (α1 → Option ρ) → α1 → Option ρ) (fin : α1 → Option ρ) : Nat → List β → α1 → Option ρ
  | 0, _, a1 => fin a1
  | n + 1, l, a1 => allSame fun i : Fin l.length => B l[i] (itm1 B fin n (l.eraseIdx i)) a1
theorem im1_i {B : β → (α1 → Option ρ) → α1 → Option ρ} {fin : α1 → Option ρ} {l : List β} {a1 : α1} {r : ρ} (h : itm1 B fin l.length l a1 = some r) : ∃ ib, ib = B ∧ ∃ fi, fi = fin ∧ itm1 ib fi l.length l a1 = some r := ⟨B, rfl, fin, rfl, h⟩
theorem im1_s {ib B : β → (α1 → Option ρ) → α1 → Option ρ} {fi : α1 → Option ρ} (e : ib = B) {l : List β} {i : Nat} {x : β} (hk : i < l.length) (hx : l[i] = x) {a1 : α1} {r : ρ} (h : itm1 ib fi l.length l a1 = some r) : B x (itm1 ib fi (l.eraseIdx i).length (l.eraseIdx i)) a1 = some r := by
  subst e; subst hx
  have hl : l.length = (l.eraseIdx i).length + 1 := by rw [List.length_eraseIdx, if_pos hk]; omega
  rw [hl] at h
  exact allSame_e h ⟨i, hk⟩
theorem im1_n {ib : β → (α1 → Option ρ) → α1 → Option ρ} {fi fin : α1 → Option ρ} (e : fi = fin) {l : List β} (hk : l = []) {a1 : α1} {r : ρ} (h : itm1 ib fi l.length l a1 = some r) : fin a1 = some r := by
  subst e; subst hk; exact h
theorem itm1_ind {B : β → (α1 → Option ρ) → α1 → Option ρ} {fin : α1 → Option ρ} {r : ρ} (I : List β → α1 → Prop) (hB : ∀ k l i a1, I l a1 → (hi : i < l.length) → (∀ b1, I (l.eraseIdx i) b1 → k b1 = some r) → B l[i] k a1 = some r) (hF : ∀ a1, I [] a1 → fin a1 = some r) : ∀ n l a1, l.length = n → I l a1 → itm1 B fin n l a1 = some r := by
  intro n
  induction n with
  | zero => intro l a1 hl hi; rw [List.length_eq_zero_iff.1 hl] at hi; exact hF a1 hi
  | succ n ih => intro l a1 hl hi; exact allSame_i ⟨⟨0, by omega⟩⟩ fun i => hB _ l i a1 hi i.2 fun b1 hj => ih _ b1 (by rw [List.length_eraseIdx, if_pos i.2]; omega) hj
end
section
variable {α1 α2 β ρ : Type}
noncomputable def itm2 (B : β → (α1 → α2 → Option ρ) → α1 → α2 → Option ρ) (fin : α1 → α2 → Option ρ) : Nat → List β → α1 → α2 → Option ρ
  | 0, _, a1, a2 => fin a1 a2
  | n + 1, l, a1, a2 => allSame fun i : Fin l.length => B l[i] (itm2 B fin n (l.eraseIdx i)) a1 a2
theorem im2_i {B : β → (α1 → α2 → Option ρ) → α1 → α2 → Option ρ} {fin : α1 → α2 → Option ρ} {l : List β} {a1 : α1} {a2 : α2} {r : ρ} (h : itm2 B fin l.length l a1 a2 = some r) : ∃ ib, ib = B ∧ ∃ fi, fi = fin ∧ itm2 ib fi l.length l a1 a2 = some r := ⟨B, rfl, fin, rfl, h⟩
theorem im2_s {ib B : β → (α1 → α2 → Option ρ) → α1 → α2 → Option ρ} {fi : α1 → α2 → Option ρ} (e : ib = B) {l : List β} {i : Nat} {x : β} (hk : i < l.length) (hx : l[i] = x) {a1 : α1} {a2 : α2} {r : ρ} (h : itm2 ib fi l.length l a1 a2 = some r) : B x (itm2 ib fi (l.eraseIdx i).length (l.eraseIdx i)) a1 a2 = some r := by
  subst e; subst hx
  have hl : l.length = (l.eraseIdx i).length + 1 := by rw [List.length_eraseIdx, if_pos hk]; omega
  rw [hl] at h
  exact allSame_e h ⟨i, hk⟩
theorem im2_n {ib : β → (α1 → α2 → Option ρ) → α1 → α2 → Option ρ} {fi fin : α1 → α2 → Option ρ} (e : fi = fin) {l : List β} (hk : l = []) {a1 : α1} {a2 : α2} {r : ρ} (h : itm2 ib fi l.length l a1 a2 = some r) : fin a1 a2 = some r := by
  subst e; subst hk; exact h
theorem itm2_ind {B : β → (α1 → α2 → Option ρ) → α1 → α2 → Option ρ} {fin : α1 → α2 → Option ρ} {r : ρ} (I : List β → α1 → α2 → Prop) (hB : ∀ k l i a1 a2, I l a1 a2 → (hi : i < l.length) → (∀ b1 b2, I (l.eraseIdx i) b1 b2 → k b1 b2 = some r) → B l[i] k a1 a2 = some r) (hF : ∀ a1 a2, I [] a1 a2 → fin a1 a2 = some r) : ∀ n l a1 a2, l.length = n → I l a1 a2 → itm2 B fin n l a1 a2 = some r := by
  intro n
  induction n with
  | zero => intro l a1 a2 hl hi; rw [List.length_eq_zero_iff.1 hl] at hi; exact hF a1 a2 hi
  | succ n ih => intro l a1 a2 hl hi; exact allSame_i ⟨⟨0, by omega⟩⟩ fun i => hB _ l i a1 a2 hi i.2 fun b1 b2 hj => ih _ b1 b2 (by rw [List.length_eraseIdx, if_pos i.2]; omega) hj
end
section
variable {α1 α2 α3 β ρ : Type}
noncomputable def itm3 (B : β → (α1 → α2 → α3 → Option ρ) → α1 → α2 → α3 → Option ρ) (fin : α1 → α2 → α3 → Option ρ) : Nat → List β → α1 → α2 → α3 → Option ρ
  | 0, _, a1, a2, a3 => fin a1 a2 a3
  | n + 1, l, a1, a2, a3 => allSame fun i : Fin l.length => B l[i] (itm3 B fin n (l.eraseIdx i)) a1 a2 a3
theorem im3_i {B : β → (α1 → α2 → α3 → Option ρ) → α1 → α2 → α3 → Option ρ} {fin : α1 → α2 → α3 → Option ρ} {l : List β} {a1 : α1} {a2 : α2} {a3 : α3} {r : ρ} (h : itm3 B fin l.length l a1 a2 a3 = some r) : ∃ ib, ib = B ∧ ∃ fi, fi = fin ∧ itm3 ib fi l.length l a1 a2 a3 = some r := ⟨B, rfl, fin, rfl, h⟩
theorem im3_s {ib B : β → (α1 → α2 → α3 → Option ρ) → α1 → α2 → α3 → Option ρ} {fi : α1 → α2 → α3 → Option ρ} (e : ib = B) {l : List β} {i : Nat} {x : β} (hk : i < l.length) (hx : l[i] = x) {a1 : α1} {a2 : α2} {a3 : α3} {r : ρ} (h : itm3 ib fi l.length l a1 a2 a3 = some r) : B x (itm3 ib fi (l.eraseIdx i).length (l.eraseIdx i)) a1 a2 a3 = some r := by
  subst e; subst hx
  have hl : l.length = (l.eraseIdx i).length + 1 := by rw [List.length_eraseIdx, if_pos hk]; omega
  rw [hl] at h
  exact allSame_e h ⟨i, hk⟩
theorem im3_n {ib : β → (α1 → α2 → α3 → Option ρ) → α1 → α2 → α3 → Option ρ} {fi fin : α1 → α2 → α3 → Option ρ} (e : fi = fin) {l : List β} (hk : l = []) {a1 : α1} {a2 : α2} {a3 : α3} {r : ρ} (h : itm3 ib fi l.length l a1 a2 a3 = some r) : fin a1 a2 a3 = some r := by
  subst e; subst hk; exact h
theorem itm3_ind {B : β → (α1 → α2 → α3 → Option ρ) → α1 → α2 → α3 → Option ρ} {fin : α1 → α2 → α3 → Option ρ} {r : ρ} (I : List β → α1 → α2 → α3 → Prop) (hB : ∀ k l i a1 a2 a3, I l a1 a2 a3 → (hi : i < l.length) → (∀ b1 b2 b3, I (l.eraseIdx i) b1 b2 b3 → k b1 b2 b3 = some r) → B l[i] k a1 a2 a3 = some r) (hF : ∀ a1 a2 a3, I [] a1 a2 a3 → fin a1 a2 a3 = some r) : ∀ n l a1 a2 a3, l.length = n → I l a1 a2 a3 → itm3 B fin n l a1 a2 a3 = some r := by
  intro n
  induction n with
  | zero => intro l a1 a2 a3 hl hi; rw [List.length_eq_zero_iff.1 hl] at hi; exact hF a1 a2 a3 hi
  | succ n ih => intro l a1 a2 a3 hl hi; exact allSame_i ⟨⟨0, by omega⟩⟩ fun i => hB _ l i a1 a2 a3 hi i.2 fun b1 b2 b3 hj => ih _ b1 b2 b3 (by rw [List.length_eraseIdx, if_pos i.2]; omega) hj
end
section
variable {α1 α2 α3 α4 β ρ : Type}
noncomputable def itm4 (B : β → (α1 → α2 → α3 → α4 → Option ρ) → α1 → α2 → α3 → α4 → Option ρ) (fin : α1 → α2 → α3 → α4 → Option ρ) : Nat → List β → α1 → α2 → α3 → α4 → Option ρ
  | 0, _, a1, a2, a3, a4 => fin a1 a2 a3 a4
  | n + 1, l, a1, a2, a3, a4 => allSame fun i : Fin l.length => B l[i] (itm4 B fin n (l.eraseIdx i)) a1 a2 a3 a4
theorem im4_i {B : β → (α1 → α2 → α3 → α4 → Option ρ) → α1 → α2 → α3 → α4 → Option ρ} {fin : α1 → α2 → α3 → α4 → Option ρ} {l : List β} {a1 : α1} {a2 : α2} {a3 : α3} {a4 : α4} {r : ρ} (h : itm4 B fin l.length l a1 a2 a3 a4 = some r) : ∃ ib, ib = B ∧ ∃ fi, fi = fin ∧ itm4 ib fi l.length l a1 a2 a3 a4 = some r := ⟨B, rfl, fin, rfl, h⟩
theorem im4_s {ib B : β → (α1 → α2 → α3 → α4 → Option ρ) → α1 → α2 → α3 → α4 → Option ρ} {fi : α1 → α2 → α3 → α4 → Option ρ} (e : ib = B) {l : List β} {i : Nat} {x : β} (hk : i < l.length) (hx : l[i] = x) {a1 : α1} {a2 : α2} {a3 : α3} {a4 : α4} {r : ρ} (h : itm4 ib fi l.length l a1 a2 a3 a4 = some r) : B x (itm4 ib fi (l.eraseIdx i).length (l.eraseIdx i)) a1 a2 a3 a4 = some r := by
  subst e; subst hx
  have hl : l.length = (l.eraseIdx i).length + 1 := by rw [List.length_eraseIdx, if_pos hk]; omega
  rw [hl] at h
  exact allSame_e h ⟨i, hk⟩
theorem im4_n {ib : β → (α1 → α2 → α3 → α4 → Option ρ) → α1 → α2 → α3 → α4 → Option ρ} {fi fin : α1 → α2 → α3 → α4 → Option ρ} (e : fi = fin) {l : List β} (hk : l = []) {a1 : α1} {a2 : α2} {a3 : α3} {a4 : α4} {r : ρ} (h : itm4 ib fi l.length l a1 a2 a3 a4 = some r) : fin a1 a2 a3 a4 = some r := by
  subst e; subst hk; exact h
theorem itm4_ind {B : β → (α1 → α2 → α3 → α4 → Option ρ) → α1 → α2 → α3 → α4 → Option ρ} {fin : α1 → α2 → α3 → α4 → Option ρ} {r : ρ} (I : List β → α1 → α2 → α3 → α4 → Prop) (hB : ∀ k l i a1 a2 a3 a4, I l a1 a2 a3 a4 → (hi : i < l.length) → (∀ b1 b2 b3 b4, I (l.eraseIdx i) b1 b2 b3 b4 → k b1 b2 b3 b4 = some r) → B l[i] k a1 a2 a3 a4 = some r) (hF : ∀ a1 a2 a3 a4, I [] a1 a2 a3 a4 → fin a1 a2 a3 a4 = some r) : ∀ n l a1 a2 a3 a4, l.length = n → I l a1 a2 a3 a4 → itm4 B fin n l a1 a2 a3 a4 = some r := by
  intro n
  induction n with
  | zero => intro l a1 a2 a3 a4 hl hi; rw [List.length_eq_zero_iff.1 hl] at hi; exact hF a1 a2 a3 a4 hi
  | succ n ih => intro l a1 a2 a3 a4 hl hi; exact allSame_i ⟨⟨0, by omega⟩⟩ fun i => hB _ l i a1 a2 a3 a4 hi i.2 fun b1 b2 b3 b4 hj => ih _ b1 b2 b3 b4 (by rw [List.length_eraseIdx, if_pos i.2]; omega) hj
end
section
variable {α1 α2 α3 α4 α5 β ρ : Type}
noncomputable def itm5 (B : β → (α1 → α2 → α3 → α4 → α5 → Option ρ) → α1 → α2 → α3 → α4 → α5 → Option ρ) (fin : α1 → α2 → α3 → α4 → α5 → Option ρ) : Nat → List β → α1 → α2 → α3 → α4 → α5 → Option ρ
  | 0, _, a1, a2, a3, a4, a5 => fin a1 a2 a3 a4 a5
  | n + 1, l, a1, a2, a3, a4, a5 => allSame fun i : Fin l.length => B l[i] (itm5 B fin n (l.eraseIdx i)) a1 a2 a3 a4 a5
theorem im5_i {B : β → (α1 → α2 → α3 → α4 → α5 → Option ρ) → α1 → α2 → α3 → α4 → α5 → Option ρ} {fin : α1 → α2 → α3 → α4 → α5 → Option ρ} {l : List β} {a1 : α1} {a2 : α2} {a3 : α3} {a4 : α4} {a5 : α5} {r : ρ} (h : itm5 B fin l.length l a1 a2 a3 a4 a5 = some r) : ∃ ib, ib = B ∧ ∃ fi, fi = fin ∧ itm5 ib fi l.length l a1 a2 a3 a4 a5 = some r := ⟨B, rfl, fin, rfl, h⟩
theorem im5_s {ib B : β → (α1 → α2 → α3 → α4 → α5 → Option ρ) → α1 → α2 → α3 → α4 → α5 → Option ρ} {fi : α1 → α2 → α3 → α4 → α5 → Option ρ} (e : ib = B) {l : List β} {i : Nat} {x : β} (hk : i < l.length) (hx : l[i] = x) {a1 : α1} {a2 : α2} {a3 : α3} {a4 : α4} {a5 : α5} {r : ρ} (h : itm5 ib fi l.length l a1 a2 a3 a4 a5 = some r) : B x (itm5 ib fi (l.eraseIdx i).length (l.eraseIdx i)) a1 a2 a3 a4 a5 = some r := by
  subst e; subst hx
  have hl : l.length = (l.eraseIdx i).length + 1 := by rw [List.length_eraseIdx, if_pos hk]; omega
  rw [hl] at h
  exact allSame_e h ⟨i, hk⟩
theorem im5_n {ib : β → (α1 → α2 → α3 → α4 → α5 → Option ρ) → α1 → α2 → α3 → α4 → α5 → Option ρ} {fi fin : α1 → α2 → α3 → α4 → α5 → Option ρ} (e : fi = fin) {l : List β} (hk : l = []) {a1 : α1} {a2 : α2} {a3 : α3} {a4 : α4} {a5 : α5} {r : ρ} (h : itm5 ib fi l.length l a1 a2 a3 a4 a5 = some r) : fin a1 a2 a3 a4 a5 = some r := by
  subst e; subst hk; exact h
theorem itm5_ind {B : β → (α1 → α2 → α3 → α4 → α5 → Option ρ) → α1 → α2 → α3 → α4 → α5 → Option ρ} {fin : α1 → α2 → α3 → α4 → α5 → Option ρ} {r : ρ} (I : List β → α1 → α2 → α3 → α4 → α5 → Prop) (hB : ∀ k l i a1 a2 a3 a4 a5, I l a1 a2 a3 a4 a5 → (hi : i < l.length) → (∀ b1 b2 b3 b4 b5, I (l.eraseIdx i) b1 b2 b3 b4 b5 → k b1 b2 b3 b4 b5 = some r) → B l[i] k a1 a2 a3 a4 a5 = some r) (hF : ∀ a1 a2 a3 a4 a5, I [] a1 a2 a3 a4 a5 → fin a1 a2 a3 a4 a5 = some r) : ∀ n l a1 a2 a3 a4 a5, l.length = n → I l a1 a2 a3 a4 a5 → itm5 B fin n l a1 a2 a3 a4 a5 = some r := by
  intro n
  induction n with
  | zero => intro l a1 a2 a3 a4 a5 hl hi; rw [List.length_eq_zero_iff.1 hl] at hi; exact hF a1 a2 a3 a4 a5 hi
  | succ n ih => intro l a1 a2 a3 a4 a5 hl hi; exact allSame_i ⟨⟨0, by omega⟩⟩ fun i => hB _ l i a1 a2 a3 a4 a5 hi i.2 fun b1 b2 b3 b4 b5 hj => ih _ b1 b2 b3 b4 b5 (by rw [List.length_eraseIdx, if_pos i.2]; omega) hj
end
section
variable {α1 α2 α3 α4 α5 α6 β ρ : Type}
noncomputable def itm6 (B : β → (α1 → α2 → α3 → α4 → α5 → α6 → Option ρ) → α1 → α2 → α3 → α4 → α5 → α6 → Option ρ) (fin : α1 → α2 → α3 → α4 → α5 → α6 → Option ρ) : Nat → List β → α1 → α2 → α3 → α4 → α5 → α6 → Option ρ
  | 0, _, a1, a2, a3, a4, a5, a6 => fin a1 a2 a3 a4 a5 a6
  | n + 1, l, a1, a2, a3, a4, a5, a6 => allSame fun i : Fin l.length => B l[i] (itm6 B fin n (l.eraseIdx i)) a1 a2 a3 a4 a5 a6
theorem im6_i {B : β → (α1 → α2 → α3 → α4 → α5 → α6 → Option ρ) → α1 → α2 → α3 → α4 → α5 → α6 → Option ρ} {fin : α1 → α2 → α3 → α4 → α5 → α6 → Option ρ} {l : List β} {a1 : α1} {a2 : α2} {a3 : α3} {a4 : α4} {a5 : α5} {a6 : α6} {r : ρ} (h : itm6 B fin l.length l a1 a2 a3 a4 a5 a6 = some r) : ∃ ib, ib = B ∧ ∃ fi, fi = fin ∧ itm6 ib fi l.length l a1 a2 a3 a4 a5 a6 = some r := ⟨B, rfl, fin, rfl, h⟩
theorem im6_s {ib B : β → (α1 → α2 → α3 → α4 → α5 → α6 → Option ρ) → α1 → α2 → α3 → α4 → α5 → α6 → Option ρ} {fi : α1 → α2 → α3 → α4 → α5 → α6 → Option ρ} (e : ib = B) {l : List β} {i : Nat} {x : β} (hk : i < l.length) (hx : l[i] = x) {a1 : α1} {a2 : α2} {a3 : α3} {a4 : α4} {a5 : α5} {a6 : α6} {r : ρ} (h : itm6 ib fi l.length l a1 a2 a3 a4 a5 a6 = some r) : B x (itm6 ib fi (l.eraseIdx i).length (l.eraseIdx i)) a1 a2 a3 a4 a5 a6 = some r := by
  subst e; subst hx
  have hl : l.length = (l.eraseIdx i).length + 1 := by rw [List.length_eraseIdx, if_pos hk]; omega
  rw [hl] at h
  exact allSame_e h ⟨i, hk⟩
theorem im6_n {ib : β → (α1 → α2 → α3 → α4 → α5 → α6 → Option ρ) → α1 → α2 → α3 → α4 → α5 → α6 → Option ρ} {fi fin : α1 → α2 → α3 → α4 → α5 → α6 → Option ρ} (e : fi = fin) {l : List β} (hk : l = []) {a1 : α1} {a2 : α2} {a3 : α3} {a4 : α4} {a5 : α5} {a6 : α6} {r : ρ} (h : itm6 ib fi l.length l a1 a2 a3 a4 a5 a6 = some r) : fin a1 a2 a3 a4 a5 a6 = some r := by
  subst e; subst hk; exact h
theorem itm6_ind {B : β → (α1 → α2 → α3 → α4 → α5 → α6 → Option ρ) → α1 → α2 → α3 → α4 → α5 → α6 → Option ρ} {fin : α1 → α2 → α3 → α4 → α5 → α6 → Option ρ} {r : ρ} (I : List β → α1 → α2 → α3 → α4 → α5 → α6 → Prop) (hB : ∀ k l i a1 a2 a3 a4 a5 a6, I l a1 a2 a3 a4 a5 a6 → (hi : i < l.length) → (∀ b1 b2 b3 b4 b5 b6, I (l.eraseIdx i) b1 b2 b3 b4 b5 b6 → k b1 b2 b3 b4 b5 b6 = some r) → B l[i] k a1 a2 a3 a4 a5 a6 = some r) (hF : ∀ a1 a2 a3 a4 a5 a6, I [] a1 a2 a3 a4 a5 a6 → fin a1 a2 a3 a4 a5 a6 = some r) : ∀ n l a1 a2 a3 a4 a5 a6, l.length = n → I l a1 a2 a3 a4 a5 a6 → itm6 B fin n l a1 a2 a3 a4 a5 a6 = some r := by
  intro n
  induction n with
  | zero => intro l a1 a2 a3 a4 a5 a6 hl hi; rw [List.length_eq_zero_iff.1 hl] at hi; exact hF a1 a2 a3 a4 a5 a6 hi
  | succ n ih => intro l a1 a2 a3 a4 a5 a6 hl hi; exact allSame_i ⟨⟨0, by omega⟩⟩ fun i => hB _ l i a1 a2 a3 a4 a5 a6 hi i.2 fun b1 b2 b3 b4 b5 b6 hj => ih _ b1 b2 b3 b4 b5 b6 (by rw [List.length_eraseIdx, if_pos i.2]; omega) hj
end

theorem erase_lt {β : Type} {l : List β} {i : Nat} (h : i < l.length) : (l.eraseIdx i).length < l.length := by rw [List.length_eraseIdx, if_pos h]; omega

/-! a map that is ranged over, and its iterator -/
def ItJ {β : Type} (r b : Nat) (q : IntKind) (E : β → Value) (l rem : List (Int × β)) (last : Option (Int × β)) (w : World) : Prop :=
  ∃ es clock seen since c0, w.heap[b]? = some (.map es clock) ∧ w.heap[r]? = some (.mapIter (some b) since seen c0) ∧ MapOk q E es clock l ∧ (∀ x ∈ es.toList, x.born < since) ∧ (since ≤ c0 ∧ since ≤ clock) ∧
    (leftOf es seen).toList.map (fun e => (e.key, e.val)) = rem.map (fun p => (Value.int q p.1, E p.2)) ∧
    ∀ p, last = some p → c0 = clock ∧ ∃ (s' : Array Nat) (e : MapEntry), seen = s'.push e.born ∧ e ∈ es.toList ∧ e.key = .int q p.1 ∧ e.val = E p.2
abbrev Itr {β : Type} (r b : Nat) (q : IntKind) (E : β → Value) (l rem : List (Int × β)) (last : Option (Int × β)) : Res := .ext [r, b] (ItJ r b q E l rem last)
theorem Itr_holds {β : Type} {r b : Nat} {q : IntKind} {E : β → Value} {l rem : List (Int × β)} {last : Option (Int × β)} {w : World} (h : ItJ r b q E l rem last w) : (Itr r b q E l rem last).holds w := fun w' _ hb => by
  obtain ⟨es, clock, seen, since, c0, h1, h2, h3⟩ := h
  exact ⟨es, clock, seen, since, c0, (hb b (by simp)).trans h1, (hb r (by simp)).trans h2, h3⟩
class ItIn (H : List Res) (r : Nat) (b : outParam Nat) (β : outParam Type) (q : outParam IntKind) (E : outParam (β → Value)) (l rem : outParam (List (Int × β))) (last : outParam (Option (Int × β))) (f : outParam (Res → List Res)) : Prop where
  ok : ∃ k : Nat, H[k]? = some (Itr r b q E l rem last) ∧ ∀ r', f r' = H.set k r'
instance (priority := 100) ItIn_here {β : Type} (r b : Nat) (q : IntKind) (E : β → Value) (l rem : List (Int × β)) (last : Option (Int × β)) (H : List Res) : ItIn (Itr r b q E l rem last :: H) r b β q E l rem last (fun r' => r' :: H) := ⟨0, rfl, fun _ => rfl⟩
instance (priority := 50) ItIn_there (s : Res) (H : List Res) (r b : Nat) (β : Type) (q : IntKind) (E : β → Value) (l rem last f) [h : ItIn H r b β q E l rem last f] : ItIn (s :: H) r b β q E l rem last (fun r' => s :: f r') :=
  ⟨by obtain ⟨k, h1, h2⟩ := h.ok; exact ⟨k + 1, by simpa using h1, fun r' => by rw [h2 r']; simp⟩⟩

theorem filter_erase : ∀ (L : List MapEntry) (i : Nat) (e : MapEntry), (L.map (·.born)).Nodup → L[i]? = some e → L.filter (fun y => y.born != e.born) = L.eraseIdx i
  | [], i, e, _, h => by simp at h
  | x :: L, 0, e, hn, h => by
    simp only [List.getElem?_cons_zero, Option.some.injEq] at h
    subst h
    rw [List.map_cons, List.nodup_cons] at hn
    rw [List.filter_cons_of_neg (by simp), List.eraseIdx_cons_zero, List.filter_eq_self]
    intro y hy
    have : y.born ≠ x.born := fun hh => hn.1 (hh ▸ List.mem_map_of_mem hy)
    simpa using this
  | x :: L, i + 1, e, hn, h => by
    rw [List.map_cons, List.nodup_cons] at hn
    have h' : L[i]? = some e := by simpa using h
    have : x.born ≠ e.born := fun hh => hn.1 (hh ▸ List.mem_map_of_mem (List.mem_of_getElem? h'))
    rw [List.filter_cons_of_pos (by simpa using this), List.eraseIdx_cons_succ, filter_erase L i e hn.2 h']
theorem leftOf_push (es : Array MapEntry) (seen : Array Nat) (x : Nat) : (leftOf es (seen.push x)).toList = (leftOf es seen).toList.filter (fun y => y.born != x) := by
  unfold leftOf
  simp only [Array.toList_filter, List.filter_filter]
  congr 1
  funext y
  have : (decide (y.born = x)) = (y.born == x) := by rw [Bool.eq_iff_iff]; simp
  simp [bne, this, Bool.and_comm]

section rules
variable {P : Program} {N : Nat} {c : Cx} {F : Frm} {H : List Res} {d : Option Tmp} {ty : TypeId} {ps : String} {af : Array Edge} {g : Option (Nat × Bool)} {β : Type} {q : IntKind} {E : β → Value} {l rem : List (Int × β)} {last : Option (Int × β)} {f : Res → List Res} {b r : Nat}

theorem RX_range {x : Operand} {t kt e : TypeId} [ht : TMap P t kt e q] (hx : ev F x = some (.map (some b))) [hm : MpIn H b β q E l f] :
    RX (α := Nat) P N c ⟨d, .range t x, ty, ps, af, g⟩ F H (fun _ => True) (fun r => Ptr r 0) (fun r => f (Itr r b q E l l none)) := fun D a w next Q hst hk => by
  obtain ⟨es, clock, h1, h2⟩ := hm.getw hst.hp
  obtain ⟨k, m1, m2⟩ := hm.ok
  have hb : b < w.heap.size := (Array.getElem?_eq_some_iff.1 h1).1
  refine opIn_value (by simp) (w' := w.alloc (.mapIter (some b) clock #[] clock)) ?_ (hk w.heap.size _ trivial (hst.si.ext (Since.alloc _ _)) ?_)
  · simp [execOp, ev_ok hst.fr hx, Instr.range, run_underlying ht.ok.1, MapKept.run_getObj_map h1, newObj, Sem.run, Result.andThen]
  · show HpOk _ _ (f (Itr w.heap.size b q E l l none)) _
    rw [m2]
    refine hst.hp.set m1 (by simp) (fun j hj _ => Below.heap_alloc w _ j hj) (Itr_holds ⟨es, clock, #[], clock, clock, (Below.heap_alloc w _ b hb).trans h1, by show (w.heap.push _)[w.heap.size]? = _; simp, h2, h2.born, ⟨Nat.le_refl _, Nat.le_refl _⟩, ?_, fun p hp => by cases hp⟩) hst.si.size (fun b' hb' => ?_)
    · have : leftOf es #[] = es := by unfold leftOf; rw [Array.filter_eq_self]; simp
      rw [this]; exact h2.kv
    · have : b' = w.heap.size ∨ b' = b := by simpa [Res.blk] using hb'
      rcases this with rfl | rfl
      · exact ⟨.inr (Nat.le_refl _), by simp⟩
      · exact ⟨.inl (by simp [Res.blk]), by simp; omega⟩

/-- a step: nothing is left, or an entry that is left -/
theorem RX_next {x : Operand} (hx : ev F x = some (Ptr r 0)) [hm : ItIn H r b β q E l rem last f] :
    RX (α := Option (Fin rem.length × (Int × β))) P N c ⟨d, .next x false, ty, ps, af, g⟩ F H (fun o => match o with | none => true = true → rem = [] | some (i, e) => true = true → rem[i] = e)
      (fun o => match o with | none => .tuple #[.bool false] | some (_, e) => .tuple #[.bool true, .int q e.1, E e.2])
      (fun o => match o with | none => f (Mp b q E l) | some (i, e) => f (Itr r b q E l (rem.eraseIdx i) (some e))) := fun D a w next Q hst hk => by
  obtain ⟨k, m1, m2⟩ := hm.ok
  have hmem : Itr r b q E l rem last ∈ H := List.mem_of_getElem? m1
  obtain ⟨es, clock, seen, since, c0, h1, h2, h3, h4, h5, h6, h7⟩ := ext_get (hst.hp.holds _ hmem)
  have hrb : r ≠ b := fun e => by subst e; rw [h1] at h2; cases h2
  have hrl : r < w.heap.size := (Array.getElem?_eq_some_iff.1 h2).1
  rcases run_next_at w ty r b since c0 seen es clock h2 h1 h4 h5.1 (P := P) with ⟨n1, n2⟩ | ⟨e, n1, w1, n2, n3⟩
  · have hrem : rem = [] := by
      have hl : (leftOf es seen).toList.length = 0 := by simpa using n1
      have := congrArg List.length h6
      rw [List.length_map, List.length_map, hl] at this
      exact List.length_eq_zero_iff.1 this.symm
    refine opIn_value (by simp) (w' := w) ?_ (hk none _ (fun _ => hrem) hst.si ?_)
    · simp [execOp, ev_ok hst.fr hx, n2, Result.andThen]
    · show HpOk _ _ (f (Mp b q E l)) w
      rw [m2]
      exact hst.hp.set m1 (Nat.le_refl _) (fun _ _ _ => rfl) (Mp_holds ⟨es, clock, h1, h3⟩) hst.si.size (fun b' hb' => by
        have e : b' = b := by simpa [Res.blk] using hb'
        subst e
        exact ⟨.inl (by simp [Res.blk]), (Array.getElem?_eq_some_iff.1 h1).1⟩)
  · obtain ⟨i, hi⟩ := List.mem_iff_getElem?.1 n1
    have hkv : rem[i]?.map (fun p => (Value.int q p.1, E p.2)) = some (e.key, e.val) := by
      rw [← List.getElem?_map, ← h6, List.getElem?_map, hi]; rfl
    have hil : i < rem.length := by
      cases hr : rem[i]? with
      | none => rw [hr] at hkv; cases hkv
      | some p => exact (List.getElem?_eq_some_iff.1 hr).1
    rw [List.getElem?_eq_getElem hil] at hkv
    obtain ⟨kk, kv⟩ := Prod.mk.inj (Option.some.inj hkv)
    have hee : e ∈ es.toList := by
      have := n1
      unfold leftOf at this
      rw [Array.toList_filter] at this
      exact (List.mem_filter.1 this).1
    have hnd : ((leftOf es seen).toList.map (·.born)).Nodup := by
      unfold leftOf
      rw [Array.toList_filter]
      exact h3.nd.sublist (List.filter_sublist.map _)
    have hw1 : w1.heap = w.heap ∧ w1.os = w.os ∧ w1.tape = w.tape ∧ w1.output = w.output := by rcases n2 with rfl | rfl <;> exact ⟨rfl, rfl, rfl, rfl⟩
    have hsin : Since [r] w (setBlock w1 r (.mapIter (some b) since (seen.push e.born) clock)) := ⟨hw1.2.1, hw1.2.2.1, hw1.2.2.2, by simp [setBlock, hw1.1], fun j _ hj => by
      have : j ≠ r := by simpa using hj
      simp only [setBlock, hw1.1]
      rw [Array.getElem?_setIfInBounds_ne (Ne.symm this)]⟩
    refine opIn_value (by simp) (w' := setBlock w1 r (.mapIter (some b) since (seen.push e.born) clock)) ?_ (hk (some (⟨i, hil⟩, rem[i])) _ (fun _ => rfl) (hst.si.store hst.hp hmem (by simp [Res.blk]) hsin) ?_)
    · simp [execOp, ev_ok hst.fr hx, n3, Result.andThen, ← kk, ← kv]
    · show HpOk _ _ (f (Itr r b q E l (rem.eraseIdx i) (some rem[i]))) _
      rw [m2]
      refine hst.hp.set m1 hsin.size (fun j hj hne => hsin.block j hj (fun hjr => hne (by simp [Res.blk] at hjr ⊢; exact .inl hjr))) (Itr_holds ⟨es, clock, seen.push e.born, since, clock, ?_, ?_, h3, h4, ?_, ?_, fun p hp => ?_⟩) hst.si.size (fun b' hb' => ?_)
      · rw [hsin.block b (Array.getElem?_eq_some_iff.1 h1).1 (by simpa using Ne.symm hrb)]; exact h1
      · simp [setBlock, hw1.1, hrl]
      · exact ⟨h5.2, h5.2⟩
      · rw [leftOf_push, filter_erase _ i e hnd hi, erase_map, h6, ← erase_map]
      · cases hp
        exact ⟨rfl, seen, e, rfl, hee, kk.symm, kv.symm⟩
      · have : b' = r ∨ b' = b := by simpa [Res.blk] using hb'
        refine ⟨.inl (by simpa [Res.blk] using this), ?_⟩
        rcases this with rfl | rfl
        · exact Nat.lt_of_lt_of_le hrl hsin.size
        · exact Nat.lt_of_lt_of_le (Array.getElem?_eq_some_iff.1 h1).1 hsin.size
theorem VS_entry {x : Operand} {p : Int × β} (hx : ev F x = some (Ptr r 0)) [hm : ItIn H r b β q E l rem (some p) f] :
    VS P N c ⟨d, .entry x, ty, ps, af, g⟩ F H (.tuple #[.int q p.1, E p.2]) := VS_of_run (by simp) fun a w hf _ hp => by
  obtain ⟨k, m1, m2⟩ := hm.ok
  obtain ⟨es, clock, seen, since, c0, h1, h2, h3, h4, h5, h6, h7⟩ := ext_get (hp.holds _ (List.mem_of_getElem? m1))
  obtain ⟨rfl, s', e, rfl, he, k1, k2⟩ := h7 p rfl
  have := run_entry_at (P := P) w r b since s' es c0 e h2 h1 he h3.nd
  simp [execOp, ev_ok hf hx, this, Result.andThen, k1, k2]
end rules
end Go.Bw

/- Maps that are sets: plain words. No program is named. -/
import Derived.Test.YtmdpbdhkmfjlhaaMap2
import Derived.Test.YtmdpbdhkmfjlhaaPure
namespace Go.Bw
open Go

theorem sub_len : ∀ (t u : List Int), t.Nodup → (∀ x ∈ t, x ∈ u) → t.length ≤ u.length
  | [], u, _, _ => Nat.zero_le _
  | x :: t, u, hn, hs => by
    rw [List.nodup_cons] at hn
    have hx := hs x (by simp)
    have := sub_len t (u.erase x) hn.2 fun y hy => (List.mem_erase_of_ne (fun e => hn.1 (by rw [← e]; exact hy))).2 (hs y (by simp [hy]))
    rw [List.length_erase_of_mem hx] at this
    have h0 : 0 < u.length := List.length_pos_of_mem hx
    rw [List.length_cons]; omega
theorem same_len {t u : List Int} (ht : t.Nodup) (hu : u.Nodup) (h : ∀ x, x ∈ t ↔ x ∈ u) : t.length = u.length :=
  Nat.le_antisymm (sub_len t u ht fun x hx => (h x).1 hx) (sub_len u t hu fun x hx => (h x).2 hx)

section
variable {β : Type}
theorem mkeys_set (l : List (Int × β)) (k : Int) (v : β) : (mset l k v).map Prod.fst = if k ∈ l.map Prod.fst then l.map Prod.fst else l.map Prod.fst ++ [k] := by
  induction l with
  | nil => simp [mset]
  | cons p r ih =>
    unfold mset
    by_cases h : k = p.1
    · subst h; simp
    · have : (k == p.1) = false := by simpa using h
      rw [this, cond_false, List.map_cons, ih]
      by_cases h2 : k ∈ r.map Prod.fst
      · rw [if_pos h2, if_pos (by simp [h2])]; rfl
      · rw [if_neg h2, if_neg (by rw [List.map_cons, List.mem_cons]; exact fun hh => hh.elim h h2)]; rfl
theorem mkeys_del (l : List (Int × β)) (k : Int) : (mdel l k).map Prod.fst = (l.map Prod.fst).erase k := by
  induction l with
  | nil => rfl
  | cons p r ih =>
    unfold mdel
    by_cases h : k = p.1
    · subst h; simp
    · have : (k == p.1) = false := by simpa using h
      rw [this, cond_false, List.map_cons, ih, List.map_cons, List.erase_cons_tail (by simpa using Ne.symm h)]
theorem mget_no {l : List (Int × β)} {k : Int} {z : β} (h : k ∉ l.map Prod.fst) : mget l k z = z := by
  have : mfind l k = none := by
    induction l with
    | nil => rfl
    | cons p r ih =>
      rw [List.map_cons, List.mem_cons, not_or] at h
      unfold mfind
      have e : (k == p.1) = false := by simpa using h.1
      rw [e, cond_false, ih h.2]; rfl
  unfold mget; rw [this]; rfl
theorem mget_mem {l : List (Int × β)} {k : Int} {z : β} (h : k ∈ l.map Prod.fst) : (k, mget l k z) ∈ l := by
  unfold mget
  cases hm : mfind l k with
  | some q =>
    have := mfind_get (j := q.1) (y := q.2) hm
    exact List.mem_of_getElem? this
  | none =>
    exfalso
    induction l with
    | nil => simp at h
    | cons p r ih =>
      unfold mfind at hm
      by_cases e : k = p.1
      · have : (k == p.1) = true := by simpa using e
        rw [this] at hm; simp at hm
      · have e2 : (k == p.1) = false := by simpa using e
        rw [e2] at hm
        simp only [cond_false, Option.map_eq_none_iff] at hm
        rw [List.map_cons, List.mem_cons] at h
        exact ih (h.elim (fun hh => absurd hh e) _root_.id) hm
theorem mhas_eq (l : List (Int × β)) (k : Int) : mhas l k = decide (k ∈ l.map Prod.fst) := by
  unfold mhas
  induction l with
  | nil => simp [mfind]
  | cons p r ih =>
    unfold mfind
    by_cases e : k = p.1
    · subst e; simp
    · have e2 : (k == p.1) = false := by simpa using e
      rw [e2, cond_false, Option.isSome_map, ih]
      simp [e]
theorem mget_set (l : List (Int × β)) (k : Int) (v : β) (x : Int) (z : β) : mget (mset l k v) x z = if x = k then v else mget l x z := by
  induction l with
  | nil =>
    unfold mset mget mfind
    by_cases h : x = k
    · subst h; simp
    · have : (x == k) = false := by simpa using h
      simp [this, h, mfind]
  | cons p r ih =>
    unfold mset
    by_cases hk : k = p.1
    · have e : (k == p.1) = true := by simpa using hk
      rw [e, cond_true]
      unfold mget mfind
      by_cases h : x = k
      · subst h; simp
      · have e1 : (x == k) = false := by simpa using h
        have e2 : (x == p.1) = false := by rw [← hk]; exact e1
        simp only [e1, e2, cond_false, if_neg h]
    · have e : (k == p.1) = false := by simpa using hk
      rw [e, cond_false]
      unfold mget mfind
      by_cases h : x = p.1
      · have e1 : (x == p.1) = true := by simpa using h
        have : ¬ x = k := fun hh => hk (by rw [← hh, h])
        simp [e1, this]
      · have e1 : (x == p.1) = false := by simpa using h
        simp only [e1, cond_false]
        unfold mget at ih
        rw [Option.map_map, Option.map_map]; exact ih
theorem mget_del (l : List (Int × β)) (k x : Int) (z : β) (hn : (l.map Prod.fst).Nodup) : mget (mdel l k) x z = if x = k then z else mget l x z := by
  by_cases h : x = k
  · subst h
    rw [if_pos rfl]
    refine mget_no ?_
    rw [mkeys_del]
    exact fun hm => ((List.Nodup.mem_erase_iff hn).1 hm).1 rfl
  · rw [if_neg h]
    induction l with
    | nil => rfl
    | cons p r ih =>
      rw [List.map_cons, List.nodup_cons] at hn
      have ih := ih hn.2
      unfold mdel
      by_cases hk : k = p.1
      · have e : (k == p.1) = true := by simpa using hk
        rw [e, cond_true]
        unfold mget
        have e2 : (x == p.1) = false := by rw [← hk]; simpa using h
        conv => rhs; unfold mfind
        rw [e2, cond_false, Option.map_map]; rfl
      · have e : (k == p.1) = false := by simpa using hk
        rw [e, cond_false]
        unfold mget mfind
        cases e2 : x == p.1 with
        | true => rfl
        | false =>
          simp only [cond_false]
          unfold mget at ih
          rw [Option.map_map, Option.map_map]; exact ih
theorem nd_keys_set {l : List (Int × β)} (k : Int) (v : β) (h : (l.map Prod.fst).Nodup) : ((mset l k v).map Prod.fst).Nodup := by
  rw [mkeys_set]
  split
  · exact h
  · rename_i hk
    rw [List.nodup_append]
    exact ⟨h, by simp, fun a ha b hb e => hk (by have : b = k := by simpa using hb
                                                 rw [← this, ← e]; exact ha)⟩
theorem nd_keys_del {l : List (Int × β)} (k : Int) (h : (l.map Prod.fst).Nodup) : ((mdel l k).map Prod.fst).Nodup := by
  rw [mkeys_del]; exact h.erase k
theorem mem_keys_set {l : List (Int × β)} {k : Int} {v : β} {x : Int} : x ∈ (mset l k v).map Prod.fst ↔ x ∈ l.map Prod.fst ∨ x = k := by
  rw [mkeys_set]
  split
  · rename_i h
    exact ⟨.inl, fun hh => hh.elim _root_.id fun e => e ▸ h⟩
  · simp
theorem mem_keys_del {l : List (Int × β)} {k x : Int} (h : (l.map Prod.fst).Nodup) : x ∈ (mdel l k).map Prod.fst ↔ x ∈ l.map Prod.fst ∧ x ≠ k := by
  rw [mkeys_del, List.Nodup.mem_erase_iff h, and_comm]
end

/-- a map that is a set -/
structure SetL (l : List (Int × Bool)) (S : Int → Prop) : Prop where
  nd : (l.map Prod.fst).Nodup
  tr : ∀ p ∈ l, p.2 = true
  mem : ∀ k, k ∈ l.map Prod.fst ↔ S k
theorem SetL.nil : SetL [] (fun _ => False) := ⟨by simp, by simp, by simp⟩
theorem SetL.get {l : List (Int × Bool)} {S : Int → Prop} (h : SetL l S) (k : Int) : mget l k false = true ↔ S k := by
  rw [← h.mem k]
  by_cases hk : k ∈ l.map Prod.fst
  · exact ⟨fun _ => hk, fun _ => h.tr _ (mget_mem hk)⟩
  · rw [mget_no hk]; exact ⟨fun hh => (by cases hh), fun hh => absurd hh hk⟩
theorem SetL.get_b {l : List (Int × Bool)} {S : Int → Prop} (h : SetL l S) (k : Int) {b : Bool} (hb : b = true ↔ S k) : mget l k false = b := by
  rw [Bool.eq_iff_iff, h.get, hb]
theorem tr_set {l : List (Int × Bool)} {k : Int} (h : ∀ p ∈ l, p.2 = true) : ∀ p ∈ mset l k true, p.2 = true := by
  induction l with
  | nil => intro p hp; rw [mset, List.mem_singleton] at hp; rw [hp]
  | cons q r ih =>
    intro p hp
    unfold mset at hp
    cases e : k == q.1 with
    | true =>
      rw [e, cond_true, List.mem_cons] at hp
      rcases hp with rfl | hp
      · rfl
      · exact h p (by simp [hp])
    | false =>
      rw [e, cond_false, List.mem_cons] at hp
      rcases hp with rfl | hp
      · exact h p (by simp)
      · exact ih (fun z hz => h z (by simp [hz])) p hp
theorem del_sub {β : Type} {l : List (Int × β)} {k : Int} {p : Int × β} (h : p ∈ mdel l k) : p ∈ l := by
  induction l with
  | nil => exact h
  | cons q r ih =>
    unfold mdel at h
    cases e : k == q.1 with
    | true => rw [e, cond_true] at h; simp [h]
    | false =>
      rw [e, cond_false, List.mem_cons] at h
      rcases h with rfl | h
      · simp
      · simp [ih h]
theorem SetL.set {l : List (Int × Bool)} {S T : Int → Prop} (h : SetL l S) {k : Int} (hT : ∀ x, T x ↔ S x ∨ x = k) : SetL (mset l k true) T :=
  ⟨nd_keys_set k true h.nd, tr_set h.tr, fun x => by rw [mem_keys_set, h.mem, hT]⟩
theorem SetL.del {l : List (Int × Bool)} {S T : Int → Prop} (h : SetL l S) {k : Int} (hT : ∀ x, T x ↔ S x ∧ x ≠ k) : SetL (mdel l k) T :=
  ⟨nd_keys_del k h.nd, fun p hp => h.tr p (del_sub hp), fun x => by rw [mem_keys_del h.nd, h.mem, hT]⟩
theorem SetL.congr {l : List (Int × Bool)} {S T : Int → Prop} (h : SetL l S) (hT : ∀ x, T x ↔ S x) : SetL l T := ⟨h.nd, h.tr, fun x => by rw [h.mem, hT]⟩
theorem SetL.len {l : List (Int × Bool)} {S : Int → Prop} (h : SetL l S) {t : List Int} (ht : t.Nodup) (hm : ∀ x, x ∈ t ↔ S x) : l.length = t.length := by
  rw [← same_len h.nd ht fun x => by rw [h.mem, hm], List.length_map]
end Go.Bw

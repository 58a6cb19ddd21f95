/- PoolOnce, as a plain law. -/
import Derived.Test.YtmdpbdhkmfjlhaaL02b
import Derived.Test.YtmdpbdhkmfjlhaaDPoolO
import Derived.Test.YtmdpbdhkmfjlhaaPMap
namespace Go.Proofs.Ytmdpbdhkmfjlhaa
open Go Go.Bw

theorem claimD {n : Nat} (hn : 110 ≤ n) {p : pool_Pool} {w : ref02_Pool} {k : Int} (r : RP2 p w k) {c : Int} (hc : I64 c) :
    ∃ p' w' a e, pool_Pool_Claim n p c = some (a, e, p') ∧ RP2 p' w' k ∧ ((e = 0 ∧ okR a c ∧ allI w.Free a c true ∧ w'.B = w.B ∧ ∀ q : Nat, w'.Free q = if a ≤ (q : Int) ∧ (q : Int) < a + c then false else w.Free q) ∨ (e ≠ 0 ∧ w' = w)) := by
  unfold pool_Pool_Claim
  by_cases c1 : c < 1
  · exact ⟨p, w, 0, 2, by rw [cn_true (by simpa using c1)], r, .inr ⟨by decide, rfl⟩⟩
  · rw [cn_false (by simpa using c1), bd_some (find_eq (n := n) hn r.fr.can c)]
    rcases findR_t (k := c) r.fr.can with ⟨f1, f2⟩ | ⟨v, f1, f2, f3, f4⟩
    · rw [f1, cn_true (b := !false) rfl]
      exact ⟨p, w, 0, 6, rfl, r, .inr ⟨by decide, rfl⟩⟩
    · have hv : I64 v := by unfold inL okR at f3; exact ⟨by omega, by omega⟩
      obtain ⟨r', g, g1, g2, g3, g4⟩ := take_eq (n := n) hn r.fr.can hv hc
      have hg := g2.2 f3
      obtain ⟨w', e1, e2⟩ := refwith_eq (n := n) (by omega) w.Free false f3.1
      obtain ⟨g5, g6⟩ := g4 hg
      rw [f1, cn_false (b := !true) rfl, bd_some g1]
      exact ⟨{ p with free := r' }, { w with Free := w' }, v, 0, rfl, ⟨r.kr, r.n, r.N, r.fr.take g5 g6 e2, r.b⟩, .inl ⟨rfl, f3.1, (r.fr.inL.1 f3).2, rfl, e2⟩⟩
theorem lent0 {w : ref02_Pool} {k x : Int} (h0 : 0 ≤ x) (h1 : x < k) (hf : w.Free x.toNat = false) : lentV w k x = 0 := by
  unfold lentV
  rw [if_neg (by omega), hf, if_neg (by decide)]
theorem clearD {n : Nat} (hn : 110 ≤ n) {p : pool_Pool} {w : ref02_Pool} {k : Int} (r : RP2 p w k) {x : Int} (h0 : 0 ≤ x) (h1 : x < k) (hf : w.Free x.toNat = false) :
    ∃ p' w', pool_Pool_Clear n p x = some (0, p') ∧ RP2 p' w' k ∧ w'.Free = w.Free ∧ ∀ a : Nat, w'.B a = if 32 * x ≤ (a : Int) ∧ (a : Int) < 32 * x + 32 then 0 else w.B a := by
  have hk := r.kr
  obtain ⟨p', w', e, e1, e2, e3⟩ := clear2 (n := n) hn r (x := x) ⟨by omega, by omega⟩
  unfold ref02_Pool_Clear at e2
  rw [bd_some (reflent (n := n) r x), lent0 h0 h1 hf] at e2
  obtain ⟨v, c1, c2, c3, c4⟩ := refclear2 (n := n) hn w (x := x) h0 (by omega)
  rw [c1] at e2
  obtain ⟨rfl, rfl⟩ := Prod.mk.inj (Option.some.inj e2)
  exact ⟨p', v, e1, e3, c3, c4⟩
theorem backD {n : Nat} (hn : 110 ≤ n) {p : pool_Pool} {w : ref02_Pool} {k : Int} (r : RP2 p w k) {x : Int} (h0 : 0 ≤ x) (h1 : x < k) (hf : w.Free x.toNat = false) :
    ∃ p', pool_Pool_Back n p x = some (0, p') ∧ RP2 p' { w with Free := upd w.Free x.toNat true } k := by
  have hk := r.kr
  obtain ⟨p', w', e, e1, e2, e3⟩ := back2 (n := n) hn r (x := x) ⟨by omega, by omega⟩
  unfold ref02_Pool_Back at e2
  rw [bd_some (reflent (n := n) r x), lent0 h0 h1 hf, cn_true (by rfl), gu_true (inb_t h0 (by omega)), lt_eq] at e2
  obtain ⟨rfl, rfl⟩ := Prod.mk.inj (Option.some.inj e2)
  exact ⟨p', e1, e3⟩
theorem at0 {w : ref02_Pool} {k x j : Int} (h0 : 0 ≤ x) (h1 : x < k) (hf : w.Free x.toNat = false) (j0 : 0 ≤ j) (j1 : j < 32) : atV w k (x * 32 + j) = 0 := by
  unfold atV
  rw [if_neg (by omega), show (x * 32 + j) / 32 = x by omega]
  exact lent0 h0 h1 hf
theorem mset_nd {β : Type} {l : List (Int × β)} (h : (l.map Prod.fst).Nodup) (k : Int) (v : β) : ((mset l k v).map Prod.fst).Nodup := by
  rw [mkeys_set]
  split
  · exact h
  · rename_i hk; exact nd_snoc h hk
/-- who holds what: nothing that is lent is free, and its bytes are known -/
structure On2 (w : ref02_Pool) (k : Int) (ho : List (Int × Int)) (by_ : List (Int × Int)) : Prop where
  fr : ∀ q : Nat, q < 64 → w.Free q = true → (q : Int) < k
  nd : (ho.map Prod.fst).Nodup
  hd : ∀ q : Int, mhas ho q = true ↔ 0 ≤ q ∧ q < k ∧ w.Free q.toNat = false
  by_ : ∀ q : Int, mhas ho q = true → ∀ j : Int, 0 ≤ j → j < 32 → mget by_ (q * 32 + j) 0 = w.B (q * 32 + j).toNat
theorem mhas_set {β : Type} (l : List (Int × β)) (k : Int) (v : β) (x : Int) : mhas (mset l k v) x = true ↔ mhas l x = true ∨ x = k := by
  rw [mhas_eq, mhas_eq, decide_eq_true_eq, decide_eq_true_eq, mem_keys_set]
theorem mhas_del {β : Type} {l : List (Int × β)} {k x : Int} (h : (l.map Prod.fst).Nodup) : mhas (mdel l k) x = true ↔ mhas l x = true ∧ x ≠ k := by
  rw [mhas_eq, mhas_eq, decide_eq_true_eq, decide_eq_true_eq, mem_keys_del h]
theorem mdel_nd {β : Type} {l : List (Int × β)} (h : (l.map Prod.fst).Nodup) (k : Int) : ((mdel l k).map Prod.fst).Nodup := by
  rw [mkeys_del]; exact h.erase _
theorem zeros2 {n : Nat} (hn : 110 ≤ n) {x : Int} (h0 : 0 ≤ x) (h1 : x < 64) (m : List (Int × Int)) {ρ : Type} (F : List (Int × Int) → Option ρ) : ∃ m', (∀ y : Int, mget m' y 0 = if 32 * x ≤ y ∧ y < 32 * x + 32 then 0 else mget m y 0) ∧
    loop2 (fun k92 (x88 : Int) (x89 : (List (Int × Int))) =>
  cn (decide (x88 < 32)) (
  lt (mset x89 (wr .i64 ((wr .i64 (x * 32)) + x88)) 0 : (List (Int × Int))) fun x93 =>
  k92 (wr .i64 (x88 + 1)) x93) (F x89)) n 0 m = F m' := by
  refine loop2_ind (fun (i : Int) (v : List (Int × Int)) => 0 ≤ i ∧ i ≤ 32 ∧ ∀ y : Int, mget v y 0 = if 32 * x ≤ y ∧ y < 32 * x + i then 0 else mget m y 0) (fun i _ => (32 - i).toNat)
    (fun o => ∃ m', (∀ y : Int, mget m' y 0 = if 32 * x ≤ y ∧ y < 32 * x + 32 then 0 else mget m y 0) ∧ o = F m') ?_ n 0 m ⟨by omega, by omega, fun y => by rw [if_neg (by omega)]⟩ (by omega)
  rintro kk i v ⟨i0, i1, hv⟩ ih
  by_cases c : i < 32
  · rw [cn_true (by simpa using c), w_i64 (x := x * 32) (by omega) (by omega), w_i64 (x := x * 32 + i) (by omega) (by omega), lt_eq, w_i64 (x := i + 1) (by omega) (by omega)]
    refine ih _ _ ⟨by omega, by omega, fun y => ?_⟩ (by omega)
    rw [mget_set, hv]
    by_cases e : y = x * 32 + i
    · rw [if_pos e, if_pos (by omega)]
    · rw [if_neg e]
      by_cases d : 32 * x ≤ y ∧ y < 32 * x + i
      · rw [if_pos d, if_pos (by omega)]
      · rw [if_neg d, if_neg (by omega)]
  · rw [cn_false (by simpa using c)]
    obtain rfl : i = 32 := by omega
    exact ⟨v, hv, rfl⟩
/-- those that were claimed are cleared, and held -/
theorem takes2 {n : Nat} (hn : 200 ≤ n) {k c a who : Int} (hc : 1 ≤ c ∧ c ≤ 5) (ha : okR a c) {p : pool_Pool} {w : ref02_Pool} (r : RP2 p w k) {ho by_ : List (Int × Int)}
    (h1 : ∀ q : Nat, q < 64 → w.Free q = true → (q : Int) < k) (h2 : (ho.map Prod.fst).Nodup) (h3 : ∀ q : Int, mhas ho q = true ↔ (0 ≤ q ∧ q < k ∧ w.Free q.toNat = false) ∧ ¬ (a ≤ q ∧ q < a + c)) (hak : a + c ≤ k) (hfr : ∀ q : Int, a ≤ q → q < a + c → w.Free q.toNat = false)
    (h4 : ∀ q : Int, mhas ho q = true → ∀ j : Int, 0 ≤ j → j < 32 → mget by_ (q * 32 + j) 0 = w.B (q * 32 + j).toNat) {K : pool_Pool → List (Int × Int) → List (Int × Int) → Option Bool}
    (hK : ∀ p' w' by' ho', RP2 p' w' k → On2 w' k ho' by' → K p' by' ho' = some true) :
    loop4 (fun k77 (x69 : Int) (x70 : pool_Pool) (x73 : (List (Int × Int))) (x74 : (List (Int × Int))) =>
  cn ((decide (x69 < (wr .i64 (a + c))) && ((0 : Int) == 0))) (
  cl ((((mhas x74 x69) || decide (x69 < 0)) || decide (k ≤ x69)) == false) (pool_Pool_Clear n x70 x69) default fun x78 =>
  lt (bif ((((mhas x74 x69) || decide (x69 < 0)) || decide (k ≤ x69)) == false) then x78.2 else x70 : pool_Pool) fun x83 =>
  cn (((((mhas x74 x69) || decide (x69 < 0)) || decide (k ≤ x69)) || (x78.1 != 0))) (
  some false) (
  lt (mset x74 x69 who : (List (Int × Int))) fun x84 =>
  loop2 (fun k92 (x88 : Int) (x89 : (List (Int × Int))) =>
  cn (decide (x88 < 32)) (
  lt (mset x89 (wr .i64 ((wr .i64 (x69 * 32)) + x88)) 0 : (List (Int × Int))) fun x93 =>
  k92 (wr .i64 (x88 + 1)) x93) (
  k77 (wr .i64 (x69 + 1)) x83 x89 x84)) n 0 x73)) (
  K x70 x73 x74)) n a p by_ ho = some true := by
  have hk := r.kr
  obtain ⟨a0, a1, a2⟩ := ha
  have e0 : wr .i64 (a + c) = a + c := w_i64 (by omega) (by omega)
  rw [e0]
  refine loop4_ind (fun (i : Int) (q : pool_Pool) (m h : List (Int × Int)) => a ≤ i ∧ i ≤ a + c ∧ ∃ v : ref02_Pool, RP2 q v k ∧ v.Free = w.Free ∧ (h.map Prod.fst).Nodup ∧ (∀ q : Int, mhas h q = true ↔ (0 ≤ q ∧ q < k ∧ w.Free q.toNat = false) ∧ ¬ (i ≤ q ∧ q < a + c)) ∧
    (∀ q : Int, mhas h q = true → ∀ j : Int, 0 ≤ j → j < 32 → mget m (q * 32 + j) 0 = v.B (q * 32 + j).toNat)) (fun i _ _ _ => (a + c - i).toNat) (fun o => o = some true) ?_ n a p by_ ho ⟨by omega, by omega, w, r, rfl, h2, h3, h4⟩ (by omega)
  rintro kk i q m h ⟨i0, i1, v, rv, vf, hn2, hh, hb⟩ ih
  by_cases ci : i < a + c
  · have hno : mhas h i = false := by
      cases e : mhas h i with
      | false => rfl
      | true => exact absurd ⟨Int.le_refl i, ci⟩ ((hh i).1 e).2
    have hfi := hfr i i0 ci
    have hg : ((mhas h i || decide (i < 0)) || decide (k ≤ i)) = false := by rw [hno, decide_eq_false (by omega), decide_eq_false (by omega)]; rfl
    obtain ⟨q', v', c1, c2, c3, c4⟩ := clearD (n := n) (by omega) rv (x := i) (by omega) (by omega) (by rw [vf]; exact hfi)
    rw [cn_true (by simp [ci]), hg]
    refine (cl_true (by rfl) c1).trans ?_
    rw [lt_eq, cn_false (by rfl), lt_eq]
    obtain ⟨m', d1, d2⟩ := zeros2 (n := n) (by omega) (x := i) (by omega) (by omega) m (fun x89 => kk (wr .i64 (i + 1)) q' x89 (mset h i who))
    refine Eq.trans d2 ?_
    rw [w_i64 (x := i + 1) (by omega) (by omega)]
    refine ih _ _ _ _ ⟨by omega, by omega, v', c2, by rw [c3, vf], mset_nd hn2 _ _, fun y => ?_, fun y hy j j0 j1 => ?_⟩ (by omega)
    · rw [mhas_set, hh y]
      constructor
      · rintro (⟨y1, y2⟩ | rfl)
        · exact ⟨y1, by omega⟩
        · exact ⟨⟨by omega, by omega, hfi⟩, by omega⟩
      · rintro ⟨y1, y2⟩
        by_cases e : y = i
        · exact .inr e
        · exact .inl ⟨y1, by omega⟩
    · rw [mhas_set] at hy
      rw [d1, c4]
      by_cases e : y = i
      · rw [if_pos (by omega), if_pos (by omega)]
      · have hy' := hy.resolve_right e
        have hyr := ((hh y).1 hy').1
        rw [if_neg (by omega), if_neg (by omega)]
        exact hb y hy' j j0 j1
  · rw [cn_false (by simp [ci])]
    refine hK q v m h rv ⟨fun y h0 hf => h1 y h0 (by rw [← vf]; exact hf), hn2, fun y => ?_, hb⟩
    rw [hh y, vf]
    exact ⟨fun z => z.1, fun z => ⟨z, by omega⟩⟩
end Go.Proofs.Ytmdpbdhkmfjlhaa

/- Pools, as plain laws. -/
import Derived.Test.YtmdpbdhkmfjlhaaL01d
import Derived.Test.YtmdpbdhkmfjlhaaDPool
namespace Go.Proofs.Ytmdpbdhkmfjlhaa
open Go Go.Bw

set_option maxRecDepth 100000 in
theorem wakes02 : law02_wakes 1000 = some true := by kernel_rfl
theorem nil02 {a b : Int} (_ : -9223372036854775808 ≤ a ∧ a ≤ 9223372036854775807) (_ : 0 ≤ b ∧ b ≤ 255) : law02_PoolNil 1000 a b = some true := by
  unfold law02_PoolNil
  refine (bd_some (x := ((0 : Int), (1 : Int))) rfl).trans ((bd_some (x := ((0 : Int), (1 : Int))) rfl).trans ?_)
  refine (cl_true (by rfl) (x := (1 : Int)) rfl).trans ((cl_true (by rfl) (x := (1 : Int)) rfl).trans ((cl_true (by rfl) (x := (1 : Int)) rfl).trans ((cl_true (by rfl) (x := (0 : Int)) rfl).trans ?_)))
  refine (cl_true (by rfl) (x := (⟨[]⟩ : runs_Runs)) rfl).trans ((cl_true (by rfl) (count_eq (n := 1000) (by omega) (r := ⟨[]⟩) Can.nil)).trans ((cl_true (by rfl) wakes02).trans rfl))

structure RP2 (p : pool_Pool) (w : ref02_Pool) (k : Int) : Prop where
  kr : 1 ≤ k ∧ k ≤ 64
  n : p.n = k
  N : w.N = k
  fr : RS p.free w.Free
  b : ∀ a : Nat, a < 2048 → p.bytes (a / 32) (a % 32) = w.B a
/-- why a page may not be touched -/
def lentV (w : ref02_Pool) (k x : Int) : Int := if x < 0 ∨ k ≤ x then 2 else if w.Free x.toNat = true then 12 else 0
theorem reflent {n : Nat} {p : pool_Pool} {w : ref02_Pool} {k : Int} (r : RP2 p w k) (x : Int) : ref02_Pool_Lent n w x = some (lentV w k x) := by
  have hk := r.kr
  unfold ref02_Pool_Lent lentV
  rw [r.N]
  by_cases c : x < 0 ∨ k ≤ x
  · rw [cn_true (by simpa using c), if_pos c]
  · rw [cn_false (by simpa using c), if_neg c, gu_true (inb_t (by omega) (by omega))]
    cases h : w.Free x.toNat with
    | true => rw [cn_true rfl, if_pos rfl]
    | false => rw [cn_false rfl, if_neg (by decide)]
theorem lent3 {n : Nat} (hn : 110 ≤ n) {p : pool_Pool} {w : ref02_Pool} {k : Int} (r : RP2 p w k) {x : Int} (hx : I64 x) {ρ : Type} (A B : ρ) (C : Option ρ) :
    (lentV w k x = 2 ∧ (cn ((decide (x < 0) || decide (p.n ≤ x))) (some A) (bd (runs_Runs_Has n p.free x) fun y => cn y (some B) (gu (inb x 64) C))) = some A) ∨
    (lentV w k x = 12 ∧ (cn ((decide (x < 0) || decide (p.n ≤ x))) (some A) (bd (runs_Runs_Has n p.free x) fun y => cn y (some B) (gu (inb x 64) C))) = some B) ∨
    (lentV w k x = 0 ∧ 0 ≤ x ∧ x < k ∧ w.Free x.toNat = false ∧ (cn ((decide (x < 0) || decide (p.n ≤ x))) (some A) (bd (runs_Runs_Has n p.free x) fun y => cn y (some B) (gu (inb x 64) C))) = C) := by
  have hk := r.kr
  unfold lentV
  rw [r.n]
  by_cases c : x < 0 ∨ k ≤ x
  · exact .inl ⟨by rw [if_pos c], by rw [cn_true (by simpa using c)]⟩
  · obtain ⟨b, b1, b2⟩ := has_eq (n := n) hn r.fr.can hx
    rw [cn_false (by simpa using c), bd_some b1, if_neg c]
    have hm := r.fr.mem x.toNat (by omega)
    rw [Int.toNat_of_nonneg (by omega)] at hm
    cases hw : w.Free x.toNat with
    | true =>
      have hb : b = true := b2.2 (hm.1 hw)
      exact .inr (.inl ⟨by rw [if_pos rfl], by rw [hb, cn_true rfl]⟩)
    | false =>
      have hb : b = false := by
        cases b with
        | false => rfl
        | true => have := hm.2 (b2.1 rfl); rw [hw] at this; cases this
      exact .inr (.inr ⟨by rw [if_neg (by decide)], by omega, by omega, rfl, by rw [hb, cn_false rfl, gu_true (inb_t (by omega) (by omega))]⟩)

theorem new2 {n : Nat} (hn : 110 ≤ n) {k : Int} (hk : 1 ≤ k ∧ k ≤ 64) : ∃ p w, pool_New n k = some (some p, 0) ∧ ref02_New n k = some w ∧ RP2 p w k := by
  obtain ⟨r0, r1, r2, r3⟩ := of_eq (n := n) k
  obtain ⟨w0, w1, w2⟩ := refof_eq (n := n) (by omega) k
  refine ⟨⟨k, r0, fun _ => fun _ => 0⟩, ⟨k, w0, fun _ => 0⟩, ?_, ?_, ⟨hk, rfl, rfl, ⟨r2, fun p hp => by show w0 p = true ↔ memI r0.l p; rw [w2 p hp, r3 p (by omega) (by omega)]; simp⟩, fun _ _ => rfl⟩⟩
  · unfold pool_New; rw [cn_false (by simp; omega), bd_some r1]; rfl
  · unfold ref02_New; rw [bd_some w1]; rfl
theorem new2_not {n : Nat} {k : Int} (hk : ¬ (1 ≤ k ∧ k ≤ 64)) : pool_New n k = some (none, 2) := by
  unfold pool_New; rw [cn_true (by simp; omega)]
theorem claim2 {n : Nat} (hn : 110 ≤ n) {p : pool_Pool} {w : ref02_Pool} {k : Int} (r : RP2 p w k) {c : Int} (hc : I64 c) :
    ∃ p' w' a e, pool_Pool_Claim n p c = some (a, e, p') ∧ ref02_Pool_Claim n w c = some (a, e, w') ∧ RP2 p' w' k := by
  unfold pool_Pool_Claim ref02_Pool_Claim
  by_cases c1 : c < 1
  · exact ⟨p, w, 0, 2, by rw [cn_true (by simpa using c1)], by rw [cn_true (by simpa using c1)], r⟩
  · rw [cn_false (by simpa using c1), cn_false (by simpa using c1)]
    obtain ⟨v, v1, v2⟩ := find_ref (n := n) hn r.fr hc
    rw [bd_some (find_eq (n := n) hn r.fr.can c), bd_some v1, v2]
    by_cases h0 : 0 ≤ v
    · rw [if_pos h0, cn_false (b := !true) rfl, cn_false (by simpa using h0)]
      rcases findR_t (k := c) r.fr.can with ⟨f1, f2⟩ | ⟨u, f1, f2, f3, f4⟩
      · rw [v2, if_pos h0] at f1; cases f1
      · rw [v2, if_pos h0] at f1
        have e : v = u := congrArg Prod.fst f1
        subst e
        have hv : I64 v := by unfold inL okR at f3; exact ⟨by omega, by omega⟩
        obtain ⟨r', g, g1, g2, g3, g4⟩ := take_eq (n := n) hn r.fr.can hv hc
        have hg := g2.2 f3
        obtain ⟨w', e1, e2⟩ := refwith_eq (n := n) (by omega) w.Free false f3.1
        obtain ⟨g5, g6⟩ := g4 hg
        rw [bd_some g1, bd_some e1]
        exact ⟨{ p with free := r' }, { w with Free := w' }, v, 0, rfl, rfl, ⟨r.kr, r.n, r.N, r.fr.take g5 g6 e2, r.b⟩⟩
    · rw [if_neg h0, cn_true (b := !false) rfl, cn_true (by simpa using h0)]
      exact ⟨p, w, 0, 6, rfl, rfl, r⟩
theorem refclear2 {n : Nat} (hn : 110 ≤ n) (w : ref02_Pool) {x : Int} (h0 : 0 ≤ x) (h1 : x < 64) : ∃ w' : ref02_Pool, loop2 (fun k29 (x25 : Int) (x26 : ref02_Pool) =>
  cn ((decide (x25 < 32) && ((0 : Int) == 0))) (
  gu (inb (wr .i64 ((wr .i64 (32 * x)) + x25)) 2048) <|
  lt ({ x26 with B := (upd x26.B (Int.toNat (wr .i64 ((wr .i64 (32 * x)) + x25))) 0) } : ref02_Pool) fun x31 =>
  k29 (wr .i64 (x25 + 1)) x31) (
  some ((0 : Int), x26))) n 0 w = some (0, w') ∧ w'.N = w.N ∧ w'.Free = w.Free ∧ ∀ a : Nat, w'.B a = if 32 * x ≤ (a : Int) ∧ (a : Int) < 32 * x + 32 then 0 else w.B a := by
  refine loop2_ind (fun (i : Int) (v : ref02_Pool) => 0 ≤ i ∧ i ≤ 32 ∧ v.N = w.N ∧ v.Free = w.Free ∧ ∀ a : Nat, v.B a = if 32 * x ≤ (a : Int) ∧ (a : Int) < 32 * x + i then 0 else w.B a) (fun i _ => (32 - i).toNat)
    (fun o => ∃ w' : ref02_Pool, o = some (0, w') ∧ w'.N = w.N ∧ w'.Free = w.Free ∧ ∀ a : Nat, w'.B a = if 32 * x ≤ (a : Int) ∧ (a : Int) < 32 * x + 32 then 0 else w.B a) ?_ n 0 w ⟨by omega, by omega, rfl, rfl, fun a => by rw [if_neg (by omega)]⟩ (by omega)
  rintro kk i v ⟨i0, i1, v1, v2, v3⟩ ih
  by_cases c : i < 32
  · rw [cn_true (by simp [c]), w_i64 (x := 32 * x) (by omega) (by omega), w_i64 (x := 32 * x + i) (by omega) (by omega), gu_true (inb_t (by omega) (by omega)), lt_eq, w_i64 (by omega) (by omega)]
    refine ih _ _ ⟨by omega, by omega, v1, v2, fun a => ?_⟩ (by omega)
    show upd v.B _ 0 a = _
    rw [upd_ite]
    by_cases e : a = (32 * x + i).toNat
    · rw [if_pos e, if_pos (by omega)]
    · rw [if_neg e, v3 a]
      by_cases d : 32 * x ≤ (a : Int) ∧ (a : Int) < 32 * x + i
      · rw [if_pos d, if_pos (by omega)]
      · rw [if_neg d, if_neg (by omega)]
  · rw [cn_false (by simp [c])]
    obtain rfl : i = 32 := by omega
    exact ⟨v, rfl, v1, v2, v3⟩
theorem clear2 {n : Nat} (hn : 110 ≤ n) {p : pool_Pool} {w : ref02_Pool} {k : Int} (r : RP2 p w k) {x : Int} (hx : I64 x) :
    ∃ p' w' e, pool_Pool_Clear n p x = some (e, p') ∧ ref02_Pool_Clear n w x = some (e, w') ∧ RP2 p' w' k := by
  have hk := r.kr
  unfold pool_Pool_Clear ref02_Pool_Clear pool_Pool_lent__pool_Pool_Clear_1
  rw [bd_some (reflent (n := n) r x)]
  have stop : ∀ e : Int, e ≠ 0 → loop2 (fun k29 (x25 : Int) (x26 : ref02_Pool) =>
  cn ((decide (x25 < 32) && (e == 0))) (
  gu (inb (wr .i64 ((wr .i64 (32 * x)) + x25)) 2048) <|
  lt ({ x26 with B := (upd x26.B (Int.toNat (wr .i64 ((wr .i64 (32 * x)) + x25))) 0) } : ref02_Pool) fun x31 =>
  k29 (wr .i64 (x25 + 1)) x31) (
  some (e, x26))) n 0 w = some (e, w) := fun e he => by
    obtain ⟨m, rfl⟩ : ∃ m, n = m + 1 := ⟨n - 1, by omega⟩
    show cn (decide ((0 : Int) < 32) && (e == 0)) _ _ = _
    rw [cn_false (by simpa using he)]
  rcases lent3 (n := n) hn r hx ((2 : Int), p) ((12 : Int), p) (bd (pool_Pool_Clear_1__in n p (Int.toNat x)) fun x27 => some ((0 : Int), x27)) with ⟨h1, h2⟩ | ⟨h1, h2⟩ | ⟨h1, a0, a1, a2, h2⟩
  · rw [bd_some h2, h1]; exact ⟨p, w, 2, rfl, stop 2 (by decide), r⟩
  · rw [bd_some h2, h1]; exact ⟨p, w, 12, rfl, stop 12 (by decide), r⟩
  · obtain ⟨w', c1, c2, c3, c4⟩ := refclear2 (n := n) hn w (x := x) a0 (by omega)
    have h3 : (bd (pool_Pool_Clear_1__in n p (Int.toNat x)) fun x27 => some ((0 : Int), x27)) = some (0, { p with bytes := upd p.bytes x.toNat (fun _ => 0) }) := rfl
    rw [bd_some (h2.trans h3), h1]
    refine ⟨_, w', 0, rfl, c1, r.kr, r.n, c2.trans r.N, by rw [c3]; exact r.fr, fun a ha => ?_⟩
    rw [c4]
    show upd p.bytes x.toNat _ (a / 32) (a % 32) = _
    rw [upd_ite]
    by_cases e : a / 32 = x.toNat
    · rw [if_pos e, if_pos (by omega)]
    · rw [if_neg e, if_neg (by omega)]; exact r.b a ha
theorem back2 {n : Nat} (hn : 110 ≤ n) {p : pool_Pool} {w : ref02_Pool} {k : Int} (r : RP2 p w k) {x : Int} (hx : I64 x) :
    ∃ p' w' e, pool_Pool_Back n p x = some (e, p') ∧ ref02_Pool_Back n w x = some (e, w') ∧ RP2 p' w' k := by
  have hk := r.kr
  unfold pool_Pool_Back ref02_Pool_Back pool_Pool_lent__pool_Pool_Back_1_at0
  rw [bd_some (reflent (n := n) r x)]
  rcases lent3 (n := n) hn r hx ((2 : Int), p) ((12 : Int), p) (bd (pool_Pool_Back_1__in__at0 n p (Int.toNat x) x) fun x27 => some ((0 : Int), x27)) with ⟨h1, h2⟩ | ⟨h1, h2⟩ | ⟨h1, a0, a1, a2, h2⟩
  · rw [bd_some h2, h1]; exact ⟨p, w, 2, rfl, rfl, r⟩
  · rw [bd_some h2, h1]; exact ⟨p, w, 12, rfl, rfl, r⟩
  · obtain ⟨r', g, g1, g2, g3, g4⟩ := give_eq (n := n) hn r.fr.can (at_ := x) (k := 1) hx ⟨by decide, by decide⟩
    have hg : g = true := g2.2 ⟨⟨by omega, a0, by omega⟩, fun q q1 q2 hm => by
      have := (r.fr.all q).1 hm
      have e : q = x := by omega
      rw [e, a2] at this; exact absurd this.2.2 (by decide)⟩
    obtain ⟨g5, g6⟩ := g4 hg
    have h3 : (bd (pool_Pool_Back_1__in__at0 n p (Int.toNat x) x) fun x27 => some ((0 : Int), x27)) = some (0, { p with free := r' }) := by
      unfold pool_Pool_Back_1__in__at0; rw [bd_some (x := { p with free := r' }) (by rw [bd_some g1]; rfl)]
    rw [bd_some (h2.trans h3), h1, cn_true (by rfl), gu_true (inb_t a0 (by omega)), lt_eq]
    refine ⟨_, _, 0, rfl, rfl, r.kr, r.n, r.N, r.fr.give g5 g6 fun q => ?_, r.b⟩
    show upd w.Free x.toNat true q = _
    rw [upd_ite]
    by_cases e : q = x.toNat
    · rw [if_pos e, if_pos (by omega)]
    · rw [if_neg e, if_neg (by omega)]
/-- why a byte may not be touched -/
def atV (w : ref02_Pool) (k a : Int) : Int := if a < 0 then 2 else lentV w k (a / 32)
theorem refat2 {n : Nat} {p : pool_Pool} {w : ref02_Pool} {k : Int} (r : RP2 p w k) {a : Int} (ha : I64 a) : ref02_Pool_At n w a = some (atV w k a) := by
  unfold ref02_Pool_At atV
  by_cases c : a < 0
  · rw [cn_true (by simpa using c), if_pos c]
  · have := ha.2
    rw [cn_false (by simpa using c), if_neg c, tdiv_pos (by omega), w_i64 (by omega) (by omega), bd_some (reflent r _)]
theorem atV_ran {w : ref02_Pool} {k a : Int} (hk : k ≤ 64) (h : atV w k a = 0) : 0 ≤ a ∧ a < 2048 := by
  unfold atV lentV at h
  split at h
  · cases h
  · split at h
    · cases h
    · omega
theorem read2 {n : Nat} (hn : 110 ≤ n) {p : pool_Pool} {w : ref02_Pool} {k : Int} (r : RP2 p w k) {a : Int} (ha : I64 a) :
    pool_Pool_Read n p a = some (if atV w k a = 0 then w.B a.toNat else 0, atV w k a) := by
  have hk := r.kr
  have := ha.2
  unfold pool_Pool_Read pool_Pool_byte__pool_Pool_Read_1
  by_cases c : a < 0
  · have e : atV w k a = 2 := by unfold atV; rw [if_pos c]
    rw [bd_some (x := ((2 : Int), (0 : Int))) (by rw [cn_true (by simpa using c)]), e, if_neg (by decide)]
  · have e : atV w k a = lentV w k (a / 32) := by unfold atV; rw [if_neg c]
    rw [cn_false (by simpa using c), tdiv_pos (by omega), w_i64 (x := a / 32) (by omega) (by omega), e]
    unfold pool_Pool_lent__pool_Pool_byte_1_pool_Pool_Read_1
    rcases lent3 (n := n) hn r (x := a / 32) ⟨by omega, by omega⟩ ((2 : Int), (0 : Int)) ((12 : Int), (0 : Int)) (bd (pool_Pool_byte_1__in__pool_Pool_Read_1 n p (Int.toNat (a / 32)) 0 a) fun x25 => some ((0 : Int), x25)) with ⟨h1, h2⟩ | ⟨h1, h2⟩ | ⟨h1, a0, a1, a2, h2⟩
    · rw [bd_some (x := ((2 : Int), (0 : Int))) (by rw [bd_some h2]), h1, if_neg (by decide)]
    · rw [bd_some (x := ((12 : Int), (0 : Int))) (by rw [bd_some h2]), h1, if_neg (by decide)]
    · have h3 : (bd (pool_Pool_byte_1__in__pool_Pool_Read_1 n p (Int.toNat (a / 32)) 0 a) fun x25 => some ((0 : Int), x25)) = some (0, w.B a.toNat) := by
        unfold pool_Pool_byte_1__in__pool_Pool_Read_1
        rw [tmod_pos (by omega), gu_true (inb_t (by omega) (by omega))]
        have hb := r.b a.toNat (by omega)
        have e1 : (a / 32).toNat = a.toNat / 32 := by omega
        have e2 : (a % 32).toNat = a.toNat % 32 := by omega
        rw [e1, e2]
        show some ((0 : Int), p.bytes (a.toNat / 32) (a.toNat % 32)) = _
        rw [hb]
      rw [bd_some (x := ((0 : Int), w.B a.toNat)) (by rw [bd_some (h2.trans h3)]), h1, if_pos rfl]
theorem write2 {n : Nat} (hn : 110 ≤ n) {p : pool_Pool} {w : ref02_Pool} {k : Int} (r : RP2 p w k) {a b : Int} (ha : I64 a) :
    ∃ p', pool_Pool_Write n p a b = some (atV w k a, p') ∧ RP2 p' (if atV w k a = 0 then { w with B := upd w.B a.toNat b } else w) k := by
  have hk := r.kr
  have := ha.2
  unfold pool_Pool_Write pool_Pool_byte__pool_Pool_Write_1
  by_cases c : a < 0
  · have e : atV w k a = 2 := by unfold atV; rw [if_pos c]
    rw [bd_some (x := ((2 : Int), p)) (by rw [cn_true (by simpa using c)]), e, if_neg (by decide)]
    exact ⟨p, rfl, r⟩
  · have e : atV w k a = lentV w k (a / 32) := by unfold atV; rw [if_neg c]
    rw [cn_false (by simpa using c), tdiv_pos (by omega), w_i64 (x := a / 32) (by omega) (by omega), e]
    unfold pool_Pool_lent__pool_Pool_byte_1_pool_Pool_Write_1
    rcases lent3 (n := n) hn r (x := a / 32) ⟨by omega, by omega⟩ ((2 : Int), p) ((12 : Int), p) (bd (pool_Pool_byte_1__in__pool_Pool_Write_1 n p (Int.toNat (a / 32)) b a) fun x27 => some ((0 : Int), x27)) with ⟨h1, h2⟩ | ⟨h1, h2⟩ | ⟨h1, a0, a1, a2, h2⟩
    · rw [bd_some (x := ((2 : Int), p)) (by rw [bd_some h2]), h1, if_neg (by decide)]; exact ⟨p, rfl, r⟩
    · rw [bd_some (x := ((12 : Int), p)) (by rw [bd_some h2]), h1, if_neg (by decide)]; exact ⟨p, rfl, r⟩
    · have e1 : (a / 32).toNat = a.toNat / 32 := by omega
      have e2 : (a % 32).toNat = a.toNat % 32 := by omega
      have h3 : (bd (pool_Pool_byte_1__in__pool_Pool_Write_1 n p (Int.toNat (a / 32)) b a) fun x27 => some ((0 : Int), x27)) = some (0, { p with bytes := upd p.bytes (a.toNat / 32) (upd (p.bytes (a.toNat / 32)) (a.toNat % 32) b) }) := by
        unfold pool_Pool_byte_1__in__pool_Pool_Write_1
        rw [tmod_pos (by omega), gu_true (inb_t (by omega) (by omega)), e1, e2]; rfl
      rw [bd_some (x := ((0 : Int), _)) (by rw [bd_some (h2.trans h3)]), h1, if_pos rfl]
      refine ⟨_, rfl, r.kr, r.n, r.N, r.fr, fun q hq => ?_⟩
      show upd p.bytes (a.toNat / 32) _ (q / 32) (q % 32) = upd w.B a.toNat b q
      rw [upd_ite, upd_ite]
      by_cases d1 : q / 32 = a.toNat / 32
      · rw [if_pos d1, upd_ite]
        by_cases d2 : q % 32 = a.toNat % 32
        · rw [if_pos d2, if_pos (by omega)]
        · rw [if_neg d2, if_neg (by omega), ← d1]; exact r.b q hq
      · rw [if_neg d1, if_neg (by omega)]; exact r.b q hq
end Go.Proofs.Ytmdpbdhkmfjlhaa

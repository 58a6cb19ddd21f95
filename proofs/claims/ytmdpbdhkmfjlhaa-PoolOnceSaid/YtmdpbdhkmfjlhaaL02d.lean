/- PoolOnce, as a plain law: the whole. -/
import Derived.Test.YtmdpbdhkmfjlhaaL02c
namespace Go.Proofs.Ytmdpbdhkmfjlhaa
open Go Go.Bw

theorem newD {n : Nat} (hn : 110 ≤ n) {k : Int} (hk : 1 ≤ k ∧ k ≤ 64) : ∃ p w, pool_New n k = some (some p, 0) ∧ RP2 p w k ∧ ∀ q : Nat, q < 64 → w.Free q = decide ((q : Int) < k) := by
  obtain ⟨p, w, e1, e2, r⟩ := new2 (n := n) hn hk
  refine ⟨p, w, e1, r, ?_⟩
  obtain ⟨w0, w1, w2⟩ := refof_eq (n := n) (by omega) k
  unfold ref02_New at e2
  rw [bd_some w1] at e2
  have e3 : (⟨k, w0, fun _ => 0⟩ : ref02_Pool) = w := Option.some.inj e2
  rw [← e3]; exact w2
theorem page_ran (x : Int) : 0 ≤ Int.tmod (wr .i64 (Int.tmod x 64 + 64)) 64 ∧ Int.tmod (wr .i64 (Int.tmod x 64 + 64)) 64 < 64 := by
  have h : -64 < Int.tmod x 64 ∧ Int.tmod x 64 < 64 := by
    by_cases c : 0 ≤ x
    · rw [tmod_pos c]; omega
    · have e : Int.tmod x 64 = -(Int.tmod (-x) 64) := by rw [Int.neg_tmod, Int.neg_neg]
      rw [e, tmod_pos (by omega)]; omega
  rw [w_i64 (by omega) (by omega), tmod_pos (by omega)]; omega
theorem once2_true {k : Int} (hk0 : 0 ≤ k ∧ k ≤ 255) {l : List law02_Act} (hl : ∀ a ∈ l, (0 ≤ a.Do ∧ a.Do ≤ 255) ∧ (-9223372036854775808 ≤ a.N ∧ a.N ≤ 9223372036854775807) ∧ (0 ≤ a.B ∧ a.B ≤ 255)) : law02_PoolOnce 1000 k l = some true := by
  unfold law02_PoolOnce
  rw [w_i64 (x := k) (by omega) (by omega)]
  by_cases hc : (200 < (l.length : Int) ∨ k < 1) ∨ 64 < k
  · rw [cn_true (by simpa using hc), bd_some wakes02]
  rw [cn_false (by simpa using hc)]
  have hk : 1 ≤ k ∧ k ≤ 64 := by omega
  obtain ⟨p0, w0, e1, r0, f0⟩ := newD (n := 1000) (by omega) hk
  rw [bd_some e1, oc_some rfl, cn_false (by rfl)]
  have o0 : On2 w0 k [] [] := ⟨fun q h1 h2 => by rw [f0 q h1] at h2; simpa using h2, List.nodup_nil, fun q => by
    constructor
    · intro h; cases h
    · rintro ⟨h1, h2, h3⟩
      rw [f0 _ (by omega), decide_eq_false_iff_not] at h3; omega, fun q h => by cases h⟩
  refine loop4_ind (fun (i : Int) (by_ ho : List (Int × Int)) (p : pool_Pool) => 0 ≤ i ∧ i ≤ l.length ∧ ∃ w, RP2 p w k ∧ On2 w k ho by_) (fun i _ _ _ => ((l.length : Int) - i).toNat) (fun o => o = some true) ?_ 1000 0 [] [] _ ⟨by omega, by omega, w0, r0, o0⟩ (by omega)
  rintro kk i by_ ho p ⟨i0, i1, w, r, o⟩ ih
  by_cases hx : i < l.length
  · rw [cn_true (by simpa using hx), gu_true (inb_t i0 (by omega)), lt_eq]
    have hm : l.getD i.toNat default ∈ l := by
      rw [List.getD, List.getElem?_eq_getElem (show i.toNat < l.length by omega)]; exact List.getElem_mem _
    obtain ⟨a1, _, a3⟩ := hl _ hm
    generalize l.getD i.toNat default = a at *
    have hpg := page_ran a.N
    generalize Int.tmod (wr .i64 (Int.tmod a.N 64 + 64)) 64 = pg at *
    have nxt : ∀ p' w' by' ho', RP2 p' w' k → On2 w' k ho' by' → kk (wr .i64 (i + 1)) by' ho' p' = some true := fun p' w' by' ho' r' o' => by
      rw [w_i64 (by omega) (by omega)]; exact ih _ _ _ _ ⟨by omega, by omega, w', r', o'⟩ (by omega)
    by_cases d0 : a.Do = 0
    · rw [cn_true (by simpa using d0), tmod_pos (a := pg) (b := 5) hpg.1, w_i64 (x := 1 + pg % 5) (by omega) (by omega)]
      obtain ⟨p', w', v, e, c1, c2, c3⟩ := claimD (n := 1000) (by omega) r (c := 1 + pg % 5) ⟨by omega, by omega⟩
      rw [bd_some c1]
      dsimp only
      rcases c3 with ⟨rfl, c4, c5, c6, c7⟩ | ⟨c4, rfl⟩
      · have hfree : ∀ q : Int, v ≤ q → q < v + (1 + pg % 5) → w.Free q.toNat = true := fun q h1 h2 => c5 q h1 h2
        obtain ⟨b0, b1, b2⟩ := c4
        have hle : v + (1 + pg % 5) ≤ k := by
          have := o.fr (v + (1 + pg % 5) - 1).toNat (by omega) (hfree _ (by omega) (by omega)); omega
        have hF : ∀ q : Int, 0 ≤ q → w'.Free q.toNat = if v ≤ q ∧ q < v + (1 + pg % 5) then false else w.Free q.toNat := fun q hq => by
          have := c7 q.toNat
          rw [Int.toNat_of_nonneg hq] at this; exact this
        exact takes2 (n := 1000) (by omega) (by omega) ⟨b0, b1, b2⟩ c2 (fun q h1 h2 => by
            rw [c7 q] at h2
            split at h2
            · cases h2
            · exact o.fr q h1 h2) o.nd (fun q => by
            rw [o.hd q]
            constructor
            · rintro ⟨q1, q2, q3⟩
              have hq : ¬ (v ≤ q ∧ q < v + (1 + pg % 5)) := fun hh => by rw [hfree q hh.1 hh.2] at q3; cases q3
              exact ⟨⟨q1, q2, by rw [hF q q1, if_neg hq]; exact q3⟩, hq⟩
            · rintro ⟨⟨q1, q2, q3⟩, q4⟩
              rw [hF q q1, if_neg q4] at q3
              exact ⟨q1, q2, q3⟩) hle (fun q h1 h2 => by rw [hF q (by omega), if_pos ⟨h1, h2⟩]) (fun q hq j j0 j1 => by rw [c6]; exact o.by_ q hq j j0 j1)
            (K := fun x70 x73 x74 => kk (wr .i64 (i + 1)) x73 x74 x70) (fun p' w' by' ho' r' o' => nxt p' w' by' ho' r' o')
      · refine loop4_ind (fun (_ : Int) (q : pool_Pool) (m h : List (Int × Int)) => q = p' ∧ m = by_ ∧ h = ho) (fun _ _ _ _ => 0) (fun o => o = some true) ?_ 1000 v p' by_ ho ⟨rfl, rfl, rfl⟩ (by omega)
        rintro k2 j q m h ⟨rfl, rfl, rfl⟩ _
        rw [cn_false (by simp [c4])]
        exact nxt _ _ _ _ c2 o
    rw [cn_false (by simpa using d0)]
    cases hb : ((a.Do == 2) && mhas ho pg) && (mget ho pg 0 == Int.tmod a.B 4) with
    | true =>
      have hh : mhas ho pg = true := by
        rw [Bool.and_eq_true, Bool.and_eq_true] at hb; exact hb.1.2
      obtain ⟨q1, q2, q3⟩ := (o.hd pg).1 hh
      obtain ⟨p', c1, c2⟩ := backD (n := 1000) (by omega) r q1 q2 q3
      rw [cn_true rfl, bd_some c1, cn_false (by rfl), lt_eq]
      refine nxt _ _ _ _ c2 ⟨fun q h1 h2 => ?_, mdel_nd o.nd _, fun q => ?_, fun q hq j j0 j1 => ?_⟩
      · have h2 : upd w.Free pg.toNat true q = true := h2
        rw [upd_ite] at h2
        split at h2
        · omega
        · exact o.fr q h1 h2
      · rw [mhas_del o.nd, o.hd q]
        show _ ↔ 0 ≤ q ∧ q < k ∧ upd w.Free pg.toNat true q.toNat = false
        rw [upd_ite]
        constructor
        · rintro ⟨⟨h1, h2, h3⟩, h4⟩; exact ⟨h1, h2, by rw [if_neg (by omega)]; exact h3⟩
        · rintro ⟨h1, h2, h3⟩
          split at h3
          · cases h3
          · exact ⟨⟨h1, h2, h3⟩, fun e => by subst e; rename_i hne; exact hne rfl⟩
      · exact o.by_ q ((mhas_del o.nd).1 hq).1 j j0 j1
    | false =>
      rw [cn_false rfl]
      cases hw : mhas ho pg && (mget ho pg 0 == Int.tmod a.B 4) with
      | true =>
        have hh : mhas ho pg = true := by
          rw [Bool.and_eq_true] at hw; exact hw.1
        obtain ⟨q1, q2, q3⟩ := (o.hd pg).1 hh
        have hd : 0 ≤ a.Do % 32 ∧ a.Do % 32 < 32 := by omega
        rw [cn_true rfl, w_i64 (x := a.Do) (by omega) (by omega), tmod_pos (a := a.Do) a1.1, w_i64 (x := pg * 32) (by omega) (by omega), w_i64 (x := pg * 32 + a.Do % 32) (by omega) (by omega)]
        have h0 := at0 (w := w) (k := k) q1 q2 q3 hd.1 hd.2
        obtain ⟨p', c1, c2⟩ := write2 (n := 1000) (by omega) r (a := pg * 32 + a.Do % 32) (b := a.B) ⟨by omega, by omega⟩
        rw [h0, if_pos rfl] at c2
        rw [h0] at c1
        rw [bd_some c1, cn_false (by rfl), lt_eq]
        refine nxt _ _ _ _ c2 ⟨o.fr, o.nd, o.hd, fun q hq j j0 j1 => ?_⟩
        have hqr := (o.hd q).1 hq
        show _ = upd w.B (pg * 32 + a.Do % 32).toNat a.B (q * 32 + j).toNat
        rw [mget_set, upd_ite]
        by_cases e : q * 32 + j = pg * 32 + a.Do % 32
        · rw [if_pos e, if_pos (by rw [e])]
        · rw [if_neg e, if_neg (by omega)]; exact o.by_ q hq j j0 j1
      | false => rw [cn_false rfl]; exact nxt _ _ _ _ r o
  · rw [cn_false (by simpa using hx)]
    refine loop2_ind (fun (i : Int) (q : pool_Pool) => 0 ≤ i ∧ i ≤ k ∧ ∃ v : ref02_Pool, RP2 q v k ∧ v.B = w.B ∧ ∀ q : Nat, q < 64 → (v.Free q = true ↔ w.Free q = true ∨ (q : Int) < i)) (fun i _ => (k - i).toNat) (fun o => o = some true) ?_ 1000 0 p ⟨by omega, by omega, w, r, rfl, fun q _ => by simp; omega⟩ (by omega)
    rintro k2 j q ⟨j0, j1, v, rv, vb, vf⟩ ih2
    by_cases cj : j < k
    · have hfree : pool_Pool_Free 1000 q = some q.free := rfl
      obtain ⟨b, b1, b2⟩ := has_eq (n := 1000) (by omega) rv.fr.can (p := j) ⟨by omega, by omega⟩
      rw [cn_true (by simpa using cj), bd_some hfree, bd_some b1]
      have hv : v.Free j.toNat = w.Free j.toNat := by
        have := vf j.toNat (by omega)
        rw [Bool.eq_iff_iff, this]; simp; omega
      have hbv : b = v.Free j.toNat := by
        have := rv.fr.mem j.toNat (by omega)
        rw [Int.toNat_of_nonneg j0] at this
        rw [Bool.eq_iff_iff, b2, this]
      have his : mhas ho j = !(w.Free j.toNat) := by
        have := o.hd j
        cases hw : w.Free j.toNat with
        | true =>
          cases hm : mhas ho j with
          | false => rfl
          | true => have := (this.1 hm).2.2; rw [hw] at this; cases this
        | false => exact this.2 ⟨j0, cj, hw⟩
      rw [his, hbv, hv]
      cases hw : w.Free j.toNat with
      | true =>
        rw [cn_false (by rfl)]
        refine loop1_ind (fun (_ : Int) => True) (fun _ => 0) (fun o => o = some true) ?_ 1000 0 trivial (by omega)
        rintro k3 y _ _
        rw [cn_false (by simp)]
        refine (cl_false (by rfl)).trans ?_
        rw [lt_eq, cn_false (by rfl), w_i64 (by omega) (by omega)]
        refine ih2 _ _ ⟨by omega, by omega, v, rv, vb, fun z hz => ?_⟩ (by omega)
        rw [vf z hz]
        constructor
        · rintro (h | h)
          · exact .inl h
          · exact .inr (by omega)
        · rintro (h | h)
          · exact .inl h
          · by_cases e : z = j.toNat
            · subst e; exact .inl hw
            · exact .inr (by omega)
      | false =>
        have hm : mhas ho j = true := by rw [his, hw]; rfl
        have hvj : v.Free j.toNat = false := by rw [hv, hw]
        rw [cn_false (by rfl)]
        refine loop1_ind (fun (y : Int) => 0 ≤ y ∧ y ≤ 32) (fun y => (32 - y).toNat) (fun o => o = some true) ?_ 1000 0 ⟨by omega, by omega⟩ (by omega)
        rintro k3 y ⟨y0, y1⟩ ih3
        by_cases cy : y < 32
        · rw [cn_true (by simp [cy]), w_i64 (x := j * 32) (by omega) (by omega), w_i64 (x := j * 32 + y) (by omega) (by omega), bd_some (read2 (by omega) rv ⟨by omega, by omega⟩), at0 (w := v) j0 cj hvj y0 cy, if_pos rfl, o.by_ j hm y y0 cy, vb, cn_false (by simp), w_i64 (by omega) (by omega)]
          exact ih3 _ ⟨by omega, by omega⟩ (by omega)
        · obtain ⟨p', c1, c2⟩ := backD (n := 1000) (by omega) rv j0 cj hvj
          rw [cn_false (by simp [cy])]
          refine (cl_true (by rfl) c1).trans ?_
          rw [lt_eq, cn_false (by rfl), w_i64 (by omega) (by omega)]
          refine ih2 _ _ ⟨by omega, by omega, _, c2, vb, fun z hz => ?_⟩ (by omega)
          show upd v.Free j.toNat true z = true ↔ _
          rw [upd_ite]
          by_cases e : z = j.toNat
          · rw [if_pos e]; simp; omega
          · rw [if_neg e, vf z hz]
            constructor
            · rintro (h | h)
              · exact .inl h
              · exact .inr (by omega)
            · rintro (h | h)
              · exact .inl h
              · exact .inr (by omega)
    · have hj : j = k := by omega
      subst hj
      rw [cn_false (by simp)]
      have hfree : pool_Pool_Free 1000 q = some q.free := rfl
      have hall : q.free.l = [⟨0, j⟩] := can_ext rv.fr.can (can_one ⟨by omega, by omega, by omega⟩) fun z => by
        rw [rv.fr.all z, memI_one]
        constructor
        · rintro ⟨h1, h2, h3⟩
          rcases (vf z.toNat (by omega)).1 h3 with h | h
          · have := o.fr z.toNat (by omega) h; dsimp only; omega
          · dsimp only; omega
        · rintro ⟨h1, h2⟩
          dsimp only at h1 h2
          exact ⟨by omega, by omega, (vf z.toNat (by omega)).2 (.inr (by omega))⟩
      rw [bd_some hfree, bd_some (allr_eq rv.fr.can), hall, gu_true (by rfl), gu_true (by rfl)]
      refine (cl_true (by simp) wakes02).trans (by simp)
end Go.Proofs.Ytmdpbdhkmfjlhaa

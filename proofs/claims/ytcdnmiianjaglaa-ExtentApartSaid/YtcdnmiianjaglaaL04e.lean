/- ExtentApart, as a plain law. -/
import Derived.Test.YtcdnmiianjaglaaDApart
import Derived.Test.YtcdnmiianjaglaaL04d
import Derived.Test.YtcdnmiianjaglaaPMap
namespace Go.Proofs.Ytcdnmiianjaglaa
open Go Go.Bw

theorem mem_bytesR {y : Rn} {q : Int} : q ∈ bytesR y ↔ 32 * y.At ≤ q ∧ q < 32 * y.At + 32 * y.N := by
  unfold bytesR
  rw [List.mem_map]
  constructor
  · rintro ⟨k, hk, rfl⟩
    rw [List.mem_range] at hk; omega
  · intro h
    exact ⟨(q - 32 * y.At).toNat, by rw [List.mem_range]; omega, by omega⟩
theorem mem_bytesL {l : List Rn} {q : Int} : q ∈ bytesL l ↔ memI l (q / 32) := by
  unfold bytesL memI
  rw [List.mem_flatMap]
  refine exists_congr fun y => and_congr_right fun _ => ?_
  rw [mem_bytesR]; omega
theorem bytesL_nd : ∀ (l : List Rn), Gd4 l → (bytesL l).Nodup := by
  intro l
  induction l using snoc_ind with
  | h0 => intro _; exact List.nodup_nil
  | h1 l y ih =>
    intro h
    obtain ⟨h1, h2, h3⟩ := gd4_snoc.1 h
    rw [bytesL_app, bytesL_one, List.nodup_append]
    refine ⟨ih h1, ?_, fun a ha b hb e => ?_⟩
    · unfold bytesR
      rw [List.Nodup, List.pairwise_map]
      exact List.nodup_range.imp fun h e => h (by omega)
    · subst e
      have := mem_bytesR.1 hb
      exact h3 (a / 32) (by omega) (by omega) (mem_bytesL.1 ha)
/-- the byte at an address -/
def byteAt (l : List Rn) (a : Int) : Int := (bytesL l).getD a.toNat 0
theorem byteAt_inj {l : List Rn} (h : Gd4 l) {a b : Int} (ha : 0 ≤ a ∧ a < 32 * sumN l) (hb : 0 ≤ b ∧ b < 32 * sumN l) (e : byteAt l a = byteAt l b) : a = b := by
  have hl := bytesL_len h.nat
  have h1 : a.toNat < (bytesL l).length := by omega
  have h2 : b.toNat < (bytesL l).length := by omega
  unfold byteAt at e
  rw [List.getD, List.getD, List.getElem?_eq_getElem h1, List.getElem?_eq_getElem h2] at e
  have := (List.getElem_inj (bytesL_nd l h)).1 e
  omega
theorem byteAt_app {l m : List Rn} (h : Gd4 l) {a : Int} (ha : 0 ≤ a ∧ a < 32 * sumN l) : byteAt (l ++ m) a = byteAt l a := by
  have hl := bytesL_len h.nat
  unfold byteAt
  rw [bytesL_app, getD_app_l _ _ _ _ (by omega)]
theorem may_true4 {n : Nat} (hn : 110 ≤ n) {e : extent_Extent} (h : May4 e) : extent_Extent_May n e = some true := by
  have := h.gx.len
  obtain ⟨b, h1, h2⟩ := may04_eq (n := n) hn (e := e) (by omega) (fun y hy => by
    obtain ⟨a, b, c⟩ := h.gx.gd.ran y hy
    exact ⟨⟨by omega, by omega⟩, ⟨by omega, by omega⟩⟩)
  rw [h1, h2.2 ⟨h.gx.gd, h.gx.sum, h.lo, h.hi⟩]
theorem may4_grow {e : extent_Extent} (h : May4 e) {a k : Int} (ho : okR a k) (hf : ∀ p, a ≤ p → p < a + k → ¬ memI e.Runs p) : May4 ⟨e.Runs ++ [⟨a, k⟩], 32 * sumN e.Runs⟩ := by
  have hg : Gd4 (e.Runs ++ [⟨a, k⟩]) := gd4_snoc.2 ⟨h.gx.gd, ho, hf⟩
  have := h.gx.pos
  obtain ⟨o1, o2, o3⟩ := ho
  refine ⟨gx_of hg, by dsimp only; omega, ?_⟩
  dsimp only
  rw [sumN_app, sum_one]; omega

/-- who owns which byte, what is free -/
structure AI (o : List (Int × Int)) (F : runs_Runs) (e : extent_Extent) : Prop where
  may : May4 e
  can : Can F.l
  off : ∀ p, memI F.l p → ¬ memI e.Runs p
  own : ∀ q ∈ o.map Prod.fst, ∃ a, 0 ≤ a ∧ a < e.Len ∧ byteAt e.Runs a = q

theorem apart_true {l : List law04_Object} (hl : ∀ x ∈ l, ((0 ≤ x.Size ∧ x.Size ≤ 255) ∧ (0 ≤ x.Align ∧ x.Align ≤ 255))) : law04_ExtentApart 5000 l = some true := by
  unfold law04_ExtentApart
  by_cases hc : 40 < l.length
  · rw [cn_true (decide_eq_true (by omega)), bd_some wakes04]
  rw [cn_false (decide_eq_false (by omega))]
  obtain ⟨F0, f1, f2, f3⟩ := of_eq (n := 5000) 64
  rw [bd_some f1]
  refine loop4_ind (fun (i : Int) (o : List (Int × Int)) (F : runs_Runs) (e : extent_Extent) => 0 ≤ i ∧ i ≤ l.length ∧ AI o F e) (fun i _ _ _ => ((l.length : Int) - i).toNat) (fun o => o = some true) ?_ 5000 0 [] F0 Z_extent_Extent
    ⟨by omega, by omega, ⟨⟨Gd4.nil, by decide⟩, by decide, by decide⟩, f2, fun p _ h => by simp [memI] at h, fun q hq => by cases hq⟩ (by omega)
  rintro kk i o F e ⟨i0, i1, hI⟩ ih
  by_cases hx : i < l.length
  · rw [cn_true (by simpa using hx), gu_true (inb_t i0 (by omega)), gu_true (inb_t i0 (by omega))]
    have hm : l.getD i.toNat default ∈ l := by
      rw [List.getD, List.getElem?_eq_getElem (show i.toNat < l.length by omega)]; exact List.getElem_mem _
    obtain ⟨⟨a0, a1⟩, a2, a3⟩ := hl _ hm
    generalize l.getD i.toNat default = x at *
    rw [tmod_pos (a := x.Align) a2, gu_true (by simp; omega), w_i64 (x := x.Size) (by omega) (by omega), tmod_pos (a := x.Size) a0, w_i64 (x := 1 + x.Size % 128) (by omega) (by omega)]
    have hal : ∃ al, shlI .i64 1 (x.Align % 4) = al ∧ al4 al := by
      have : x.Align % 4 = 0 ∨ x.Align % 4 = 1 ∨ x.Align % 4 = 2 ∨ x.Align % 4 = 3 := by omega
      rcases this with h | h | h | h <;> rw [h]
      · exact ⟨1, by decide, .inl rfl⟩
      · exact ⟨2, by decide, .inr (.inl rfl)⟩
      · exact ⟨4, by decide, .inr (.inr (.inl rfl))⟩
      · exact ⟨8, by decide, .inr (.inr (.inr rfl))⟩
    obtain ⟨al, e1, e2⟩ := hal
    rw [e1]
    obtain ⟨sz, hsz⟩ : ∃ sz, sz = 1 + x.Size % 128 := ⟨_, rfl⟩
    rw [← hsz]
    have hs1 : 1 ≤ sz ∧ sz ≤ 128 := by omega
    have hob : objB sz al = true := objB_iff.2 ⟨hs1, e2⟩
    have hal8 : 1 ≤ al ∧ al ≤ 8 := by rcases e2 with h | h | h | h <;> omega
    -- an object that fits is put
    have put : ∀ (F' : runs_Runs) (e' : extent_Extent), AI o F' e' → fitB4 e' sz al = true →
        (bd (extent_Extent_Put 5000 e' sz al) fun x91 =>
        gu (!((!x91.2.2) == false) || al != 0) <|
        cl (((!x91.2.2) || ((Int.tmod x91.2.1 al) != 0)) == false) (extent_Extent_May 5000 x91.1) default fun x101 =>
        cn (((((!x91.2.2) || ((Int.tmod x91.2.1 al) != 0)) || (!x101)) || (x91.1.Len != (wr .i64 (x91.2.1 + sz))))) (some false) (
        loop2 (fun k111 (x107 : Int) (x108 : (List (Int × Int))) =>
        cn (decide (x107 < (wr .i64 (x91.2.1 + sz)))) (
        bd (extent_Extent_Place 5000 x91.1 x107) fun x112 =>
        cn (((!x112.2) || (mhas x108 x112.1))) (some false) (
        lt (mset x108 x112.1 i : (List (Int × Int))) fun x113 =>
        k111 (wr .i64 (x107 + 1)) x113)) (
        kk (wr .i64 (i + 1)) x108 F' x91.1)) 5000 x91.2.1 o)) = some true := by
      intro F' e' hI' hf
      have h1 := hI'.may.lo; have h2 := hI'.may.hi; have h3 := hI'.may.gx.sum; have h4 := hI'.may.gx.pos
      obtain ⟨u1, u2, u3, _⟩ := up4_ran (x := e'.Len) e2
      have hf2 := hf
      unfold fitB4 at hf2
      rw [hob, Bool.true_and, decide_eq_true_iff] at hf2
      have hm' : May4 ⟨e'.Runs, up4 e'.Len al + sz⟩ := ⟨hI'.may.gx, by dsimp only; omega, hf2⟩
      rw [bd_some (put4_eq (by omega) hI'.may sz al), if_pos hf]
      dsimp only
      rw [tmod_pos (a := up4 e'.Len al) (by omega), u3, gu_true (by simp; omega)]
      refine (cl_true (by rfl) (may_true4 (n := 5000) (by omega) hm')).trans ?_
      rw [w_i64 (x := up4 e'.Len al + sz) (by omega) (by omega), cn_false (by simp)]
      refine loop2_ind (fun (k : Int) (o2 : List (Int × Int)) => up4 e'.Len al ≤ k ∧ k ≤ up4 e'.Len al + sz ∧ ∀ q ∈ o2.map Prod.fst, ∃ a, 0 ≤ a ∧ a < k ∧ byteAt e'.Runs a = q) (fun k _ => (up4 e'.Len al + sz - k).toNat) (fun o => o = some true) ?_ 5000 (up4 e'.Len al) o
        ⟨by omega, by omega, fun q hq => by obtain ⟨a, b1, b2, b3⟩ := hI'.own q hq; exact ⟨a, b1, by omega, b3⟩⟩ (by omega)
      rintro k2 k o2 ⟨k0, k1, ho⟩ ih2
      by_cases hk : k < up4 e'.Len al + sz
      · rw [cn_true (by simpa using hk), bd_some (place_eq (n := 5000) (by omega) hm' (at_ := k) ⟨by omega, by omega⟩)]
        have hpl : plV e'.Runs 0 k = (byteAt e'.Runs k, true) := by
          unfold plV byteAt
          rw [if_pos (by omega)]
          simp
        dsimp only
        rw [hpl]
        have hno : mhas o2 (byteAt e'.Runs k) = false := by
          rw [mhas_eq, decide_eq_false_iff_not]
          intro hmem
          obtain ⟨a, b1, b2, b3⟩ := ho _ hmem
          have := byteAt_inj hI'.may.gx.gd ⟨b1, by omega⟩ ⟨by omega, by omega⟩ b3
          omega
        dsimp only
        rw [cn_false (by rw [hno]; rfl), lt_eq, w_i64 (by omega) (by omega)]
        refine ih2 _ _ ⟨by omega, by omega, fun q hq => ?_⟩ (by omega)
        rcases mem_keys_set.1 hq with hq | hq
        · obtain ⟨a, b1, b2, b3⟩ := ho q hq
          exact ⟨a, b1, by omega, b3⟩
        · exact ⟨k, by omega, by omega, hq.symm⟩
      · rw [cn_false (by simpa using hk), w_i64 (by omega) (by omega)]
        refine ih _ _ _ _ ⟨by omega, by omega, hm', hI'.can, hI'.off, fun q hq => ?_⟩ (by omega)
        obtain ⟨a, b1, b2, b3⟩ := ho q hq
        exact ⟨a, b1, by dsimp only; omega, b3⟩
    rw [lt_eq, bd_some (fits_eq (by omega) hI.may sz al)]
    cases hf : fitB4 e sz al with
    | true =>
      unfold fitV4
      rw [hf, if_pos rfl, cn_false (b := !true) rfl]
      exact put F e hI hf
    | false =>
      unfold fitV4
      rw [hf, if_neg (by decide), cn_true (b := !false) rfl, bd_some (needs_eq (by omega) sz al), if_pos hob]
      dsimp only
      have hn1 : 1 ≤ (sz + 31) / 32 ∧ (sz + 31) / 32 ≤ 4 := by omega
      rw [bd_some (find_eq (by omega) hI.can _), cn_false (by simp; omega)]
      rcases findR_t hI.can (k := (sz + 31) / 32) with ⟨g1, _⟩ | ⟨v, g1, g2, g3, _⟩
      · rw [g1, cn_true (b := !false) rfl, bd_some (may_true4 (by omega) hI.may)]
        exact (cl_true (by rfl) wakes04).trans rfl
      · obtain ⟨g4, g5⟩ := g3
        have g6 := g4
        obtain ⟨o1, o2, o3⟩ := g6
        rw [g1, cn_false (b := !true) rfl]
        dsimp only
        obtain ⟨F', gg, t1, t2, _, t4⟩ := take_eq (n := 5000) (by omega) hI.can (at_ := v) (k := (sz + 31) / 32) ⟨by omega, by omega⟩ ⟨by omega, by omega⟩
        have hgg : gg = true := t2.2 ⟨g4, g5⟩
        subst hgg
        obtain ⟨t5, t6⟩ := t4 rfl
        have hoff : ∀ p, v ≤ p → p < v + (sz + 31) / 32 → ¬ memI e.Runs p := fun p p1 p2 => hI.off p (g5 p p1 p2)
        have hgm := may4_grow hI.may g4 hoff
        rw [bd_some t1, lt_eq, bd_some (grow_eq (by omega) hI.may _)]
        have h4 := hI.may.gx.pos
        dsimp only
        have hA : AI o F' ⟨e.Runs ++ [⟨v, (sz + 31) / 32⟩], 32 * sumN e.Runs⟩ := by
          refine ⟨hgm, t5, fun p hp hp2 => ?_, fun q hq => ?_⟩
          · obtain ⟨h5, h6⟩ := (t6 p).1 hp
            rcases memI_snoc.1 hp2 with h7 | h7
            · exact hI.off p h5 h7
            · exact h6 h7
          · obtain ⟨a, b1, b2, b3⟩ := hI.own q hq
            have := hI.may.hi
            exact ⟨a, b1, by dsimp only; omega, (byteAt_app hI.may.gx.gd ⟨b1, by omega⟩).trans b3⟩
        have hF : fitB4 ⟨e.Runs ++ [⟨v, (sz + 31) / 32⟩], 32 * sumN e.Runs⟩ sz al = true := by
          unfold fitB4
          rw [hob, Bool.true_and, decide_eq_true_iff]
          dsimp only
          rw [sumN_app, sum_one]
          have hup : up4 (32 * sumN e.Runs) al = 32 * sumN e.Runs := by
            obtain ⟨u1, u2, u3, u4⟩ := up4_ran (x := 32 * sumN e.Runs) e2
            exact (u4 _ (by omega) u1 (by rcases e2 with h | h | h | h <;> subst h <;> omega)).symm
          rw [hup]; omega
        exact put F' _ hA hF
  · rw [cn_false (by simpa using hx), bd_some wakes04]
end Go.Proofs.Ytcdnmiianjaglaa

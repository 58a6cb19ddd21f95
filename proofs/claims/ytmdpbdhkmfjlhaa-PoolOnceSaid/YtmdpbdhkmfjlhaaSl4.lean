/- Guarded literals; append onto a clipped slice. No program is named. -/
import Derived.Test.YtmdpbdhkmfjlhaaSl3
import Derived.ArgAppend
namespace Go.Bw
open Go Go.RowKit

section rules
variable {P : Program} {N : Nat} {c : Cx} {D : List Deferred} {Q : Exit → Act → World → Prop} {F : Frm} {H : List Res} {d : Option Tmp} {ty : TypeId} {ps : String} {af : Array Edge} {g : Option (Nat × Bool)} {α β γ : Type}

theorem fz_lit {q T : Nat} {L : Lay α} [FlatL L] {xs : List α} : Fz (Hs [.ext (blks [.cells q T (rowC L xs)]) (Hs [.cells q T (rowC L xs)])]) (.slice (some ⟨q, 0, none⟩) xs.length xs.length) L xs :=
  (Fz.cells (b := q) (T := T) (m := xs.length) (L := L) (xs := xs) rfl).mono ent
theorem RG_bsc {ops : Array Oper} {op : Op} {L : Lay α} [FlatL L] {xs : List α} {e : Nat} {gg : Option (Nat × Bool)} {b : Bool} (hg : Gd ops F gg b)
    (hr : b = true → RX (α := Nat) P N c ⟨d, op, ty, ps, af, gg⟩ F H (fun _ => True) (fun q => .slice (some ⟨q, 0, none⟩) xs.length xs.length) (fun q => .cells q e (rowC L xs) :: H)) :
    RG (α := Value × List Nat × (World → Prop)) P N c ops ⟨d, op, ty, ps, af, gg⟩ F H (fun x => b = true → Fz (Hs [.ext x.2.1 x.2.2]) x.1 L xs) (fun x => bif b then x.1 else undef) (fun x => .ext x.2.1 x.2.2 :: H) := fun D a w next Q hst hk => by
  rw [hg ⟨d, op, ty, ps, af, gg⟩ a rfl hst.fr]
  cases b with
  | false => exact hk (undef, [], Hs []) w nofun hst.si (hp_ext0 hst.hp)
  | true => exact hr rfl D a w next Q hst fun q w' _ hs hh => hk (.slice (some ⟨q, 0, none⟩) xs.length xs.length, blks [.cells q e (rowC L xs)], Hs [.cells q e (rowC L xs)]) w' (fun _ => fz_lit) hs (bundle (R := [.cells q e (rowC L xs)]) hh)
theorem WL_bsc {ops : Array Oper} {rest : List Oper} {op : Op} {L : Lay α} [FlatL L] {xs : List α} {e : Nat} {gg : Option (Nat × Bool)} {b : Bool} {dd : Tmp} (hg : Gd ops F gg b) (hd : Nat.blt dd N = true)
    (hr : b = true → RX (α := Nat) P N c ⟨some dd, op, ty, ps, af, gg⟩ F H (fun _ => True) (fun q => .slice (some ⟨q, 0, none⟩) xs.length xs.length) (fun q => .cells q e (rowC L xs) :: H))
    (h : ∀ x : Value × List Nat × (World → Prop), (b = true → Fz (Hs [.ext x.2.1 x.2.2]) x.1 L xs) → WL P N c D ops Q rest ((dd, bif b then x.1 else undef) :: F) (.ext x.2.1 x.2.2 :: H)) :
    WL P N c D ops Q (⟨some dd, op, ty, ps, af, gg⟩ :: rest) F H := by
  cases b with
  | false => exact WL_skip hg hd (WL_res (fun _ _ _ hp => hp_ext0 hp) (h (undef, [], Hs []) nofun))
  | true =>
    intro a w hst
    simp only [wpListIn, hg ⟨some dd, op, ty, ps, af, gg⟩ a rfl hst.fr, if_true]
    exact hr rfl D a w _ Q hst fun q w' _ hs hh => h (.slice (some ⟨q, 0, none⟩) xs.length xs.length, blks [.cells q e (rowC L xs)], Hs [.cells q e (rowC L xs)]) (fun _ => fz_lit) _ _ (hst.put (d := some dd) hd hs (bundle (R := [.cells q e (rowC L xs)]) hh))

/-! append onto a clipped slice: a new row -/
theorem RX_app1c {s x : Operand} {t e sz bytes b T cp : Nat} {A : World → Prop} {v : Value} {L : Lay α} [FlatL L] {xs : List α} {y : α} [ht : TEl P t e sz bytes] (hf : Fz A v L xs) (hs : ev F s = some (clipV v)) (hx : ev F x = some (.slice (some ⟨b, 0, none⟩) 1 cp)) [hc : HasC H b T (L.enc y)] [k : Kn c H A] (hn : L.n = sz)
    (hsm : (xs.length + 1) * bytes ≤ 140737488355328) (h63 : xs.length + 1 ≤ 9223372036854775807) :
    RX P N c ⟨d, .call ⟨.builtin .append, #[s, x], #[t, t]⟩, ty, ps, af, g⟩ F H (fun v' => SlN v' (xs ++ [y]).length) (fun v' => v') (fun v' => Row v' e sz L (xs ++ [y]) :: H) := fun D a w next Q hst hk => by
  subst hn
  obtain ⟨i, z, e1, e2, e3, e4, e5, e6, e7⟩ := TEl.get ht.ok
  have hro := hf.ro w (k.ok w hst.si hst.hp)
  have hcell := hst.hp.holds _ hc.mem
  have hnews : ∀ (j : Nat) u, (L.enc y)[j]? = some u → w.cell? ((⟨b, 0, none⟩ : Addr).add j) = some u := fun j u hj => by rw [Addr.add_lit, Nat.zero_add, cell_of hcell]; exact hj
  have hmx : xs.length + 1 ≤ maxLen := by simp only [maxLen]; omega
  have key : ∃ v' w', (Builtin.append_ #[t, t] ty #[clipV v, .slice (some ⟨b, 0, none⟩) 1 cp]).run P w = .ok v' w' ∧ w'.ownsRow w.heap.size e L.n v' (xs.length + 1) (rowC L xs ++ L.enc y) ∧ Since [] w w' := by
    rcases hro.2 with ⟨⟨a0, c0, hv⟩, h0⟩ | ⟨gb, off, cap, hv, h3, h4, h5⟩
    · subst hv
      have hxs : xs = [] := List.length_eq_zero_iff.1 h0
      subst hxs
      cases a0 with
      | none =>
        obtain ⟨v', w', q1, q2, q3, _⟩ := run_append_own w w.heap.size t ty e i z L.n bytes e1 e2 e3 e4 e5 e6 e7 (.slice none 0 0) 0 [] ⟨by simp, .inl ⟨rfl, rfl⟩⟩ ⟨b, 0, none⟩ 1 cp (L.enc y) (by rw [enc_len]; omega) hnews (enc_one L y) (by simpa using hmx) (by simpa using hsm) (Nat.le_refl _)
        exact ⟨v', w', q1, q2, Since.of_grown q3⟩
      | some ad =>
        obtain ⟨v', w', q1, q2, q3⟩ := run_append_arg_grows (P := P) w t ty e i z L.n bytes e1 e2 e3 e4 e5 e6 e7 ad 0 0 [] (by simp) (by simp) ⟨b, 0, none⟩ 1 cp (L.enc y) (by rw [enc_len]; omega) hnews (by omega) (by simpa using hmx) (by simpa using hsm)
        exact ⟨v', w', q1, q2, Since.of_grown q3⟩
    · subst hv
      obtain ⟨v', w', q1, q2, q3⟩ := run_append_arg_grows (P := P) w t ty e i z L.n bytes e1 e2 e3 e4 e5 e6 e7 ⟨gb, off, none⟩ xs.length xs.length (rowC L xs) (rowC_len L xs) (fun j u hj => by rw [Addr.add_lit]; exact h5 j u hj) ⟨b, 0, none⟩ 1 cp (L.enc y) (by rw [enc_len]; omega) hnews (by omega) hmx hsm
      exact ⟨v', w', q1, q2, Since.of_grown q3⟩
  obtain ⟨v', w', q1, q2, q3⟩ := key
  have hrow : (Row v' e L.n L (xs ++ [y])).holds w' := by
    unfold Row
    rw [rowC_app, rowC_one1, List.length_append]
    obtain ⟨o1, o2⟩ := q2
    refine ⟨o1, o2.imp (fun h => h) fun ⟨gb, cap, cur, r1, r2, r3⟩ => ⟨gb, cap, cur, r1, Nat.zero_le _, r3⟩⟩
  refine opIn_value (by simp) (v := v') (w' := w') ?_ (hk v' w' (SlN.of_row hrow) (hst.si.ext q3) (hst.hp.fresh q3 hrow hst.si.size fun b' hb' => ?_))
  · simp [execOp, resolve, invoke, builtin, ev_ok hst.fr hs, ev_ok hst.fr hx, q1]
  · exact q2.lt b' (by simpa [Row, Res.blk] using hb')
end rules
end Go.Bw

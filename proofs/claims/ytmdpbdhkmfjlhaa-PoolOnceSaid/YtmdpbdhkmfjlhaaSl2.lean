/- Slices of arrays, copies, elements of elements, literals, clipped slices; calls that are handed what they own. No program is named. -/
import Derived.Test.YtmdpbdhkmfjlhaaSl
import Derived.Laws.CopyRow
namespace Go.Bw
open Go Go.RowKit

section rules
variable {P : Program} {N : Nat} {c : Cx} {D : List Deferred} {Q : Exit → Act → World → Prop} {F : Frm} {H : List Res} {d : Option Tmp} {ty : TypeId} {ps : String} {af : Array Edge} {g : Option (Nat × Bool)} {α β γ : Type}

/-! a slice of an array -/
def chkPA (P : Program) (t n e sz : Nat) : Bool := match P.underlying t with
  | some (.pointer a) => chkArr P a n e sz
  | _ => false
theorem chkPA_get {t n e sz : Nat} (h : chkPA P t n e sz = true) : ∃ a i, P.underlying t = some (.pointer a) ∧ P.underlying a = some (.array n e) ∧ P.info? e = some i ∧ i.size = sz := by
  unfold chkPA at h
  split at h
  · rename_i a h1
    obtain ⟨i, h2, h3, h4⟩ := TArr.get h
    exact ⟨a, i, h1, h2, h3, h4⟩
  · cases h
def slA (b off l n sz : Nat) : Value := .slice (some (if n = l then ⟨b, off, none⟩ else ⟨b, off + l * sz, none⟩)) (n - l) (n - l)
theorem VS_slahi {x hi : Operand} {t n e sz b off m : Nat} {k : IntKind} {i : Int} [ht : TArr P t n e sz] (hx : ev F x = some (Ptr b off)) (hhi : ev F hi = some (.int k i)) (h1 : i = (m : Int)) (hm : m ≤ n) :
    VS P N c ⟨d, .slice t x none (some hi) none, ty, ps, af, g⟩ F H (.slice (some ⟨b, off, none⟩) m n) :=
  VS_of_run (by simp) fun a w hf _ _ => by
    obtain ⟨inf, e1, e3, e4⟩ := TArr.get ht.ok
    subst h1
    have b1 := bound_nat (P := P) (k := k) (w := w) (code := .sliceAlen) hm
    simp [execOp, ev_ok hf hx, ev_ok hf hhi, Instr.sliceAt, run_underlying e1, Instr.sliceBounds, b1, sizeOf, typeInfo, e3, Ptr, Instr.sureAddr, asAddr, Addr.add]
theorem VS_slalo {x lo : Operand} {t n e sz b off l : Nat} {k : IntKind} {i : Int} [ht : TArr P t n e sz] (hx : ev F x = some (Ptr b off)) (hlo : ev F lo = some (.int k i)) (h1 : i = (l : Int)) (hl : l ≤ n) :
    VS P N c ⟨d, .slice t x (some lo) none none, ty, ps, af, g⟩ F H (slA b off l n sz) :=
  VS_of_run (by simp) fun a w hf _ _ => by
    obtain ⟨inf, e1, e3, e4⟩ := TArr.get ht.ok
    subst h1
    have b1 := bound_nat (P := P) (k := k) (w := w) (code := .sliceB) hl
    simp [execOp, ev_ok hf hx, ev_ok hf hlo, Instr.sliceAt, run_underlying e1, Instr.sliceBounds, b1, sizeOf, typeInfo, e3, e4, Ptr, Instr.sureAddr, asAddr, slA, Addr.add_lit]
theorem VS_slaall {x : Operand} {t n e sz b off : Nat} [ht : TArr P t n e sz] (hx : ev F x = some (Ptr b off)) :
    VS P N c ⟨d, .slice t x none none none, ty, ps, af, g⟩ F H (.slice (some ⟨b, off, none⟩) n n) :=
  VS_of_run (by simp) fun a w hf _ _ => by
    obtain ⟨inf, e1, e3, e4⟩ := TArr.get ht.ok
    simp [execOp, ev_ok hf hx, Instr.sliceAt, run_underlying e1, Instr.sliceBounds, sizeOf, typeInfo, e3, e4, Ptr, Instr.sureAddr, asAddr, Addr.add]

theorem VS_slphi {x hi : Operand} {t n e sz b off m : Nat} {k : IntKind} {i : Int} (ht : chkPA P t n e sz = true) (hx : ev F x = some (Ptr b off)) (hhi : ev F hi = some (.int k i)) (h1 : i = (m : Int)) (hm : m ≤ n) :
    VS P N c ⟨d, .slice t x none (some hi) none, ty, ps, af, g⟩ F H (.slice (some ⟨b, off, none⟩) m n) :=
  VS_of_run (by simp) fun a w hf _ _ => by
    obtain ⟨ar, inf, e1, e2, e3, e4⟩ := chkPA_get ht
    subst h1
    have b1 := bound_nat (P := P) (k := k) (w := w) (code := .sliceAlen) hm
    simp [execOp, ev_ok hf hx, ev_ok hf hhi, Instr.sliceAt, run_underlying e1, run_underlying e2, Instr.slice, Instr.sliceBounds, b1, sizeOf, typeInfo, e3, Ptr, Instr.sureAddr, asAddr, Addr.add]
theorem VS_slplo {x lo : Operand} {t n e sz b off l : Nat} {k : IntKind} {i : Int} (ht : chkPA P t n e sz = true) (hx : ev F x = some (Ptr b off)) (hlo : ev F lo = some (.int k i)) (h1 : i = (l : Int)) (hl : l ≤ n) :
    VS P N c ⟨d, .slice t x (some lo) none none, ty, ps, af, g⟩ F H (slA b off l n sz) :=
  VS_of_run (by simp) fun a w hf _ _ => by
    obtain ⟨ar, inf, e1, e2, e3, e4⟩ := chkPA_get ht
    subst h1
    have b1 := bound_nat (P := P) (k := k) (w := w) (code := .sliceB) hl
    simp [execOp, ev_ok hf hx, ev_ok hf hlo, Instr.sliceAt, run_underlying e1, run_underlying e2, Instr.slice, Instr.sliceBounds, b1, sizeOf, typeInfo, e3, e4, Ptr, Instr.sureAddr, asAddr, slA, Addr.add_lit]
theorem VS_slpall {x : Operand} {t n e sz b off : Nat} (ht : chkPA P t n e sz = true) (hx : ev F x = some (Ptr b off)) :
    VS P N c ⟨d, .slice t x none none none, ty, ps, af, g⟩ F H (.slice (some ⟨b, off, none⟩) n n) :=
  VS_of_run (by simp) fun a w hf _ _ => by
    obtain ⟨ar, inf, e1, e2, e3, e4⟩ := chkPA_get ht
    simp [execOp, ev_ok hf hx, Instr.sliceAt, run_underlying e1, run_underlying e2, Instr.slice, Instr.sliceBounds, sizeOf, typeInfo, e3, e4, Ptr, Instr.sureAddr, asAddr, Addr.add]

/-- what a copy within an array leaves -/
def cpA {β : Type} (i j n : Nat) (a : Nat → β) : Nat → β := fun q => if i ≤ q ∧ q < i + min (n - j) (n - i) then a (q - i + j) else a q
theorem flat1 {f : Nat → List Value} (h : ∀ i, (f i).length = 1) {n q : Nat} : (flat f n)[q]? = if q < n then (f q)[0]? else none := by
  by_cases hq : q < n
  · rw [if_pos hq]
    have := flat_get (g := f) (k := 1) (n := n) (i := q) (j := 0) (fun i _ => h i) hq (by decide)
    rwa [Nat.mul_one, Nat.add_zero] at this
  · rw [if_neg hq]
    exact List.getElem?_eq_none (by rw [flat_len (k := 1) (fun i _ => h i)]; omega)
theorem RX_copyA {L : Lay α} {M : Lay β} [FlatL L] [FlatL M] {x y : Operand} {t e b off n i j T : Nat} {z : α} {gg : α → Nat → β} {s : α → (Nat → β) → α} {H' : List Res} (p : Pth L (LA M n) off gg s) (hM : M.n = 1) (z' : α) (hz : z' = s z (cpA i j n (gg z)))
    (ht : chkSl P t e 1 = true) (hx : ev F x = some (slA b off i n 1)) (hy : ev F y = some (slA b off j n 1)) (hi : i ≤ n) (hj : j ≤ n) [hc : HasC H b T (L.enc z)] [hs : SetC H b (L.enc z') H'] :
    RX (α := Unit) P N c ⟨d, .call ⟨.builtin .copy, #[x, y], #[t, t]⟩, ty, ps, af, g⟩ F H (fun _ => True) (fun _ => .int .i64 (min (n - j) (n - i) : Nat)) (fun _ => H') := fun D a w next Q hst hk => by
  obtain ⟨inf, e1, e2, e3⟩ := TSl.get ht
  have hb : w.heap[b]? = some (.cells (L.enc z).toArray T (0, 0)) := hst.hp.holds _ hc.mem
  have hle : off + n * 1 ≤ (L.enc z).length := by rw [enc_len]; have := p.le; rw [show (LA M n).n = n * M.n from rfl, hM] at this; exact this
  let m := min (n - j) (n - i)
  let o := if n = i then off else off + i * 1
  let cs := ((L.enc z).drop (off + j)).take m
  have hcl : cs.length = m := by simp only [cs, List.length_take, List.length_drop]; omega
  have hoi : m ≠ 0 → o = off + i := fun hm => by simp only [o]; split <;> omega
  have haddr : ∀ l : Nat, (if n = l then (⟨b, off, none⟩ : Addr) else ⟨b, off + l * 1, none⟩) = ⟨b, if n = l then off else off + l * 1, none⟩ := fun l => by split <;> rfl
  have hsrc : ∀ (q : Nat) (v : Value), cs[q]? = some v → w.cell? ((⟨b, if n = j then off else off + j * 1, none⟩ : Addr).add q) = some v := fun q v hq => by
    have hq2 : q < m := by have := (List.getElem?_eq_some_iff.1 hq).1; omega
    have hnj : ¬ n = j := by omega
    rw [if_neg hnj, Addr.add_lit, cell_of (hst.hp.holds _ hc.mem)]
    simp only [cs, List.getElem?_take, if_pos hq2, List.getElem?_drop] at hq
    rw [← hq, Nat.mul_one]
  have h1 : OneC cs := fun v hv => enc_one L z v (List.drop_subset _ _ (List.take_subset _ _ hv))
  have hrun := run_copy_row (P := P) w t t ty e b o (n - i) (n - i) ⟨b, if n = j then off else off + j * 1, none⟩ (n - j) (n - j) (L.enc z).toArray T cs e1 (by simp [e2, e3]) hb hcl hsrc (by
    rw [hcl, List.size_toArray]
    by_cases hm : m = 0
    · rw [hm]; simp only [o]; split <;> omega
    · rw [hoi hm]; omega) h1
  have hnew : (L.enc z).take o ++ cs ++ (L.enc z).drop (o + cs.length) = L.enc z' := by
    show splice (L.enc z) o cs = _
    rw [hz, ← p.put]
    show _ = splice (L.enc z) off (flat (fun q => M.enc (cpA i j n (gg z) q)) n)
    have hfl : (flat (fun q => M.enc (cpA i j n (gg z) q)) n).length = n := by rw [flat_len (k := 1) (fun q _ => by rw [enc_len, hM])]; omega
    have hsub := p.agg z
    have hcell : ∀ q, q < n → (L.enc z)[off + q]? = (M.enc (gg z q))[0]? := fun q hq => by
      have h5 : (((L.enc z).drop off).take (LA M n).n)[q]? = (flat (fun i => M.enc (gg z i)) n)[q]? := by rw [hsub]; rfl
      rw [List.getElem?_take, if_pos (by show q < n * M.n; rw [hM]; omega), List.getElem?_drop, flat1 (fun i => by rw [enc_len, hM]), if_pos hq] at h5
      exact h5
    refine list_ext fun q => ?_
    rw [splice_get (off := o) (vs := cs) (by
      rw [hcl]
      by_cases hm : m = 0
      · rw [hm]; simp only [o]; split <;> omega
      · rw [hoi hm]; omega), splice_get (off := off) (by omega), hfl, hcl]
    by_cases hin : off ≤ q ∧ q < off + n
    · rw [if_pos hin, flat1 (fun i => by rw [enc_len, hM]), if_pos (show q - off < n by omega)]
      by_cases hm : i ≤ q - off ∧ q - off < i + m
      · have ho := hoi (by omega)
        rw [if_pos (by omega)]
        simp only [cpA]
        rw [if_pos hm]
        simp only [cs, List.getElem?_take, List.getElem?_drop]
        rw [if_pos (by omega), show off + j + (q - o) = off + (q - off - i + j) by omega]
        exact hcell _ (by omega)
      · have hno : ¬ (o ≤ q ∧ q < o + m) := fun hq => by
          have ho := hoi (by omega)
          omega
        rw [if_neg hno]
        simp only [cpA]
        rw [if_neg hm, ← hcell _ (by omega), show off + (q - off) = q by omega]
    · rw [if_neg hin]
      have hno : ¬ (o ≤ q ∧ q < o + m) := fun hq => by
        have ho := hoi (by omega)
        omega
      rw [if_neg hno]
  have hsin : Since [b] w (w.setRow b (L.enc z').toArray) := ⟨rfl, rfl, rfl, by simp, fun k _ hk => setRow_other w b k _ (by simpa using hk)⟩
  refine opIn_value (by simp) (v := .int .i64 (m : Nat)) (w' := w.setRow b (L.enc z').toArray) ?_ (hk () _ trivial (hst.si.store hst.hp hc.mem (by simp [Res.blk]) hsin) (hst.hp.setC hs hsin hst.si.size ?_))
  · have e5 : ((L.enc z).toArray.toList.take o ++ cs ++ (L.enc z).toArray.toList.drop (o + cs.length)).toArray = (L.enc z').toArray := by rw [← hnew]
    rw [e5, hcl] at hrun
    have hx2 : a.eval x = .slice (some ⟨b, o, none⟩) (n - i) (n - i) := by rw [ev_ok hst.fr hx, slA, haddr i]
    have hy2 : a.eval y = .slice (some ⟨b, if n = j then off else off + j * 1, none⟩) (n - j) (n - j) := by rw [ev_ok hst.fr hy, slA, haddr j]
    simp only [Nat.mul_one] at hrun hy2
    simp [execOp, resolve, invoke, builtin, hx2, hy2, hrun]
    rfl
  · intro T' cs'' hT
    have := cell_of_inj (hst.hp.holds _ hc.mem) hT
    obtain ⟨rfl, rfl⟩ := this
    have := setRow_heap w b (L.enc z).toArray (L.enc z').toArray T (0, 0) hb
    simpa [Res.holds] using this

/-! an element of an element -/
theorem VS_ixR {A : World → Prop} {v : Value} {L : Lay α} [FlatL L] {xs : List α} {x y : Operand} {t len e sz k0 m q : Nat} {k : IntKind} {i : Int} [h : TArr P t len e sz] (hf : Fz A v L xs) (hx : ev F x = some (rowPtr v k0)) (hy : ev F y = some (.int k i)) [Kn c H A] (hq : q < xs.length) (hi : i = (m : Int)) (hm : m < len) :
    VS P N c ⟨d, .indexAddr t x y, ty, ps, af, g⟩ F H (rowPtr v (k0 + m * sz)) :=
  VS_of_run (by simp) fun a w hf' hs hp => by
    haveI := hf.at (c := c) (H := H)
    obtain ⟨gb, off, cap, rfl, _, _, _⟩ := ((hf.at (c := c) (H := H)).ro w hs hp).at hq
    obtain ⟨inf, h1, h2, h3⟩ := TArr.get h.ok
    subst hi
    simp [execOp, ev_ok hf' hx, ev_ok hf' hy, rowPtr, Instr.indexAt, asIntOf, run_underlying h1, Instr.sureAddr, sizeOf, typeInfo, h2, h3, Addr.add_lit, Nat.add_assoc]
    intro hle
    omega

theorem guard_ex {g : Bool} {p q : Value → Prop} (h : g = true → ∃ v, p v ∧ q v) : ∃ v, (g = true → p v) ∧ (g = true → q v) := by
  cases g with
  | false => exact ⟨undef, nofun, nofun⟩
  | true => obtain ⟨v, h1, h2⟩ := h rfl; exact ⟨v, fun _ => h1, fun _ => h2⟩

/-! a slice, all of it; clipped -/
theorem VS_slall {A : World → Prop} {v : Value} {L : Lay α} [FlatL L] {xs : List α} {x : Operand} {t e q : Nat} [ht : TSl P t e q] (hf : Fz A v L xs) (hx : ev F x = some v) [Kn c H A] : VS P N c ⟨d, .slice t x none none none, ty, ps, af, g⟩ F H v :=
  VS_of_run (by simp) fun a w hf' hs hp => by
    obtain ⟨i, h1, h2, h3⟩ := TSl.get ht.ok
    obtain ⟨a0, cp, rfl⟩ := hf.sl
    simp [execOp, ev_ok hf' hx, Instr.sliceAt, run_underlying h1, Instr.slice, Instr.sliceBounds, sizeOf, typeInfo, h2, h3, Addr.add]
theorem VS_clipF {A : World → Prop} {v : Value} {L : Lay α} [FlatL L] {xs : List α} {x hi mx : Operand} {t e q : Nat} {k k' : IntKind} [ht : TSl P t e q] (hf : Fz A v L xs) (hx : ev F x = some v) (hh : ev F hi = some (.int k (xs.length : Int))) (hm : ev F mx = some (.int k' (xs.length : Int))) [Kn c H A] :
    VS P N c ⟨d, .slice t x none (some hi) (some mx), ty, ps, af, g⟩ F H (clipV v) := by
  haveI := hf.at (c := c) (H := H)
  exact VS_clip hx hh hm
theorem Fz.clip {A : World → Prop} {v : Value} {L : Lay α} [FlatL L] {xs : List α} (h : Fz A v L xs) : Fz A (clipV v) L xs := ⟨h.sl.clip, fun w hw => by
  obtain ⟨h1, h2⟩ := h.ro w hw
  refine ⟨h1, ?_⟩
  rcases h2 with ⟨⟨a, cp, rfl⟩, e⟩ | ⟨gb, off, cap, rfl, q1, q2, q3⟩
  · exact .inl ⟨⟨a, 0, by simp [clipV, e]⟩, e⟩
  · exact .inr ⟨gb, off, xs.length, rfl, q1, Nat.le_refl _, q3⟩⟩

/-! calls that are handed what they own -/
def Fut (bs : List Nat) (K : World → Prop) (w : World) : Prop := ∀ w', Since bs w w' → K w'
class KnF (c : Cx) (R : List Res) (K : World → Prop) : Prop where
  ok : ∀ w, Since c.bs c.w0 w → Hs R w → K w
instance (priority := 90) KnF_and (c : Cx) (R : List Res) (A B : World → Prop) [h : KnF c R A] [k : KnF c R B] : KnF c R (fun w => A w ∧ B w) := ⟨fun w h1 h2 => ⟨h.ok w h1 h2, k.ok w h1 h2⟩⟩
instance (priority := 80) KnF_hs (c : Cx) (R S : List Res) [h : Ent (Hs R) (Hs S)] : KnF c R (Hs S) := ⟨fun w _ h2 => h.ok w h2⟩
instance (priority := 80) KnF_true (c : Cx) (R : List Res) : KnF c R (fun _ => True) := ⟨fun _ _ _ => trivial⟩
instance (priority := 20) Kn_F (c : Cx) (H : List Res) (K : World → Prop) [h : KnF c H K] : Kn c H K := ⟨fun w h1 h2 => h.ok w h1 (hs_of h2)⟩
theorem knf_pre {c : Cx} {K : World → Prop} [hS : Stable K] (hbs : c.bs = []) (hpre : K c.w0) : ∀ R, KnF c R K := fun R => ⟨fun w hs _ => hS.ok c.w0 w hpre (by rw [hbs] at hs; exact hs)⟩
theorem knf_fut {c : Cx} {K : World → Prop} {bs : List Nat} (hbs : c.bs = bs) (hpre : Fut bs K c.w0) : ∀ R, KnF c R K := fun R => ⟨fun w hs _ => hpre w (hbs ▸ hs)⟩

abbrev FnC (P : Program) (f : Nat) (args : List Value) (K : World → Prop) (Hin : List Res) (p : (World → Prop) → Value → List Res → Prop) : Prop :=
  Fn (α := Value × List Res × List Nat × (World → Prop)) P f args (Fut (blks Hin) K) Hin (fun x => p (Hs [.ext x.2.2.1 x.2.2.2]) x.1 x.2.1) (fun x => x.1) (fun x => .ext x.2.2.1 x.2.2.2 :: x.2.1)
theorem RX_callH {α : Type} {x : Operand} {args : List Operand} {ats : Array TypeId} {f : Nat} {fst cap : Array Value} {us vs : List Value} {K : World → Prop} {Hin rest : List Res} {p : α → Prop} {fv : α → Value} {fH : α → List Res} {ks : List Nat}
    (hc : Fn P f vs (Fut (blks Hin) K) Hin p fv fH) (hx : ev F x = some (.func (.func f) fst cap)) (ha : evs F args = some us) (hv : fst.toList ++ us ++ cap.toList = vs) (hkp : pick H ks = some (Hin ++ rest)) (hn : ks.Nodup) [hK : KnF c rest K] :
    RX P N c ⟨d, .call ⟨.value x, args.toArray, ats⟩, ty, ps, af, g⟩ F H p fv (fun i => fH i ++ rest) := fun D a w next Q hst hk => by
  refine ⟨fun _ _ => trivial, ?_⟩
  have hs : Oper.semAt (FA c.ro).round a.eval (⟨d, .call ⟨.value x, args.toArray, ats⟩, ty, ps, af, g⟩ : Oper) = execOp a.eval ⟨d, .call ⟨.value x, args.toArray, ats⟩, ty, ps, af, g⟩ := Oper.semAt_eq _ _ _ (by simp)
  have hr : (execOp a.eval ⟨d, .call ⟨.value x, args.toArray, ats⟩, ty, ps, af, g⟩).run P w = .ok (.enter f vs.toArray) w := by
    have e1 := ev_ok hst.fr hx
    have e2 := evs_ok hst.fr ha
    have e3 : fst ++ (args.toArray.map a.eval) ++ cap = vs.toArray := by
      rw [← hv, ← e2]
      simp
    simp only [execOp, resolve, e1, Deferred.ofValue, Sem.run_bind, Sem.run_pure, Result.andThen_ok, invoke, e3]
    exact hc.enter _ _
  rw [hs, hr]
  refine ⟨fun h => by simp at h, callsIn_fa c.ro ?_⟩
  have hp := hst.hp.pick hkp hn
  have hap := List.pairwise_append.1 hp.apart
  have hin : HpOk (blks Hin) w.heap.size Hin w := ⟨fun r hr => hp.holds r (List.mem_append_left _ hr), fun r hr b hb => ⟨.inl (mem_blks.2 ⟨r, hr, hb⟩), (hp.own r (List.mem_append_left _ hr) b hb).2⟩, hap.1⟩
  have hkeep : ∀ {w' : World}, Since (blks Hin) w w' → ∀ r ∈ rest, r.holds w' ∧ ∀ b ∈ r.blk, b < w'.heap.size := fun hsi r hr => by
    have hlt : ∀ b ∈ r.blk, b < w.heap.size := fun b hb => (hp.own r (List.mem_append_right _ hr) b hb).2
    refine ⟨Res.holds_same (hp.holds r (List.mem_append_right _ hr)) hsi.size fun b hb => hsi.block b (hlt b hb) fun hm => ?_, fun b hb => Nat.lt_of_lt_of_le (hlt b hb) hsi.size⟩
    obtain ⟨q, hq, hbq⟩ := mem_blks.1 hm
    exact hap.2.2 q hq r hr b hbq hb
  have hown : ∀ b ∈ blks Hin, b ∈ c.bs ∨ c.w0.heap.size ≤ b := fun b hb => by
    obtain ⟨q, hq, hbq⟩ := mem_blks.1 hb
    exact (hp.own q (List.mem_append_left _ hq) b hbq).1
  have hpre : Fut (blks Hin) K w := fun w' hsi => hK.ok w' (hst.si.trans hsi hown) (hkeep hsi)
  have hcall := hc.calls w hpre hin
  intro cs
  obtain ⟨e, w', fr, ⟨i, hpi, he, hsi, hh⟩, more⟩ := hcall cs
  refine ⟨e, w', fr, ?_, more⟩
  subst he
  have hrest := hkeep hsi
  refine hk i w' hpi (hst.si.trans hsi hown) ⟨fun r hm => ?_, fun r hm b hb => ?_, List.pairwise_append.2 ⟨hh.apart, hap.2.1, fun r h1 s h2 b hb hsb => ?_⟩⟩
  · rcases List.mem_append.1 hm with h1 | h1
    · exact hh.holds r h1
    · exact (hrest r h1).1
  · rcases List.mem_append.1 hm with h1 | h1
    · obtain ⟨o, l⟩ := hh.own r h1 b hb
      refine ⟨?_, l⟩
      rcases o with o | o
      · exact hown b o
      · exact .inr (Nat.le_trans hst.si.size o)
    · exact ⟨(hp.own r (List.mem_append_right _ h1) b hb).1, (hrest r h1).2 b hb⟩
  · obtain ⟨o, _⟩ := hh.own r h1 b hb
    rcases o with o | o
    · obtain ⟨q, hq, hbq⟩ := mem_blks.1 o
      exact hap.2.2 q hq s h2 b hbq hsb
    · have := (hp.own s (List.mem_append_right _ h2) b hsb).2
      omega
end rules
end Go.Bw

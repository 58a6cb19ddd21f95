/- Give, counts and masks of runs. -/
import Derived.Test.YtmdpbdhkmfjlhaaL01
namespace Go.Proofs.Ytmdpbdhkmfjlhaa
open Go Go.Bw

/-- what Give has done with the runs ahead -/
structure GI (l : List Rn) (at_ k : Int) (pre rest : List Rn) (put : Bool) (out : List Rn) (x : Rn) : Prop where
  e : l = pre ++ rest
  free : ∀ p, memI pre p → ¬ (at_ ≤ p ∧ p < at_ + k)
  lo : x.At ≤ at_ ∧ (x.At = at_ ∨ ∃ z ∈ pre, z.At + z.N = at_)
  hi : at_ + k ≤ x.At + x.N ∧ (x.At + x.N = at_ + k ∨ ∃ z ∈ pre, z.At + z.N = x.At + x.N)
  ran : 0 ≤ x.At ∧ 1 ≤ x.N ∧ x.At + x.N ≤ 64
  off : put = false → Can (out ++ [x]) ∧ (∀ z ∈ out, z ∈ pre) ∧ ∀ p, memI (out ++ [x]) p ↔ memI pre p ∨ (at_ ≤ p ∧ p < at_ + k)
  on : put = true → Can out ∧ (∀ z ∈ out, z ∈ pre ∨ z = x) ∧ (∃ z ∈ pre, x.At + x.N < z.At) ∧ ∀ p, memI out p ↔ memI pre p ∨ (at_ ≤ p ∧ p < at_ + k)
theorem can_snoc {l : List Rn} {y : Rn} (h : Can l) (hy : 0 ≤ y.At ∧ 1 ≤ y.N ∧ y.At + y.N ≤ 64) (ha : ∀ z ∈ l, z.At + z.N < y.At) : Can (l ++ [y]) :=
  ⟨fun z hz => by
    rcases List.mem_append.1 hz with hz | hz
    · exact h.ran z hz
    · rw [List.mem_singleton.1 hz]; exact hy,
   List.pairwise_append.2 ⟨h.pw, List.pairwise_singleton _ _, fun a ha' b hb => by rw [List.mem_singleton.1 hb]; exact ha a ha'⟩⟩
theorem Can.init {l : List Rn} {y : Rn} (h : Can (l ++ [y])) : Can l := ⟨fun z hz => h.ran z (by simp [hz]), (List.pairwise_append.1 h.pw).1⟩
theorem Can.last {l : List Rn} {y : Rn} (h : Can (l ++ [y])) : ∀ z ∈ l, z.At + z.N < y.At := fun z hz => (List.pairwise_append.1 h.pw).2.2 z hz y (by simp)
theorem memI_one {y : Rn} {p : Int} : memI [y] p ↔ y.At ≤ p ∧ p < y.At + y.N := by rw [memI_cons]; simp [memI]

def giveP (r' : runs_Runs) (g : Bool) (l : List Rn) (r : runs_Runs) (at_ k : Int) : Prop :=
  (g = true ↔ ∀ p, at_ ≤ p → p < at_ + k → ¬ memI l p) ∧ (g = false → r' = r) ∧ (g = true → Can r'.l ∧ ∀ p, memI r'.l p ↔ memI l p ∨ (at_ ≤ p ∧ p < at_ + k))
theorem give_it {n : Nat} {r : runs_Runs} {l : List Rn} (hl : Can l) {at_ k : Int} (ho : okR at_ k) : ∀ (xs : List (Int × Rn)) (pre : List Rn) (put : Bool) (out : List Rn) (x : Rn), GI l at_ k pre (xs.map Prod.snd) put out x →
    ∃ r' g, itr3 (fun (e56 : Int × runs_Run) k42 (x37 : Bool) (x38 : (List runs_Run)) (x41 : runs_Run) =>
      lt (e56.1 : Int) fun x54 =>
      lt (e56.2 : runs_Run) fun x55 =>
      bd (runs_Run_end n x55) fun x57 =>
      cn (decide (x57 < x41.At)) (
      gu (apok x38.length 1 16) <|
      lt (x38 ++ ([x55]) : List runs_Run) fun x59 =>
      k42 x37 x59 x41) (
      bd (runs_Run_end n x41) fun x62 =>
      cn (decide (x62 < x55.At)) (
      lt (fun (x63 : Bool) (x64 : (List runs_Run)) =>
      gu (apok x64.length 1 16) <|
      lt (x64 ++ ([x55]) : List runs_Run) fun x73 =>
      k42 x63 x73 x41) fun j67 =>
      cn ((!x37)) (
      gu (apok x38.length 1 16) <|
      lt (x38 ++ ([x41]) : List runs_Run) fun x69 =>
      j67 true x69) (
      j67 x37 x38)) (
      bd (runs_Run_end n x55) fun x76 =>
      cn ((x76 == x41.At)) (
      lt ({ At := x55.At, N := wr .i64 (x55.N + x41.N) } : runs_Run) fun x77 =>
      k42 x37 x38 x77) (
      bd (runs_Run_end n x41) fun x78 =>
      cn ((x55.At == x78)) (
      lt ({ x41 with N := wr .i64 (x41.N + x55.N) } : runs_Run) fun x79 =>
      k42 x37 x38 x79) (
      some (r, false)))))) (fun (x37 : Bool) (x38 : (List runs_Run)) (x41 : runs_Run) =>
      cn ((!x37)) (
      gu (apok x38.length 1 16) <|
      lt (x38 ++ ([x41]) : List runs_Run) fun x84 =>
      lt ({ l := x84 } : runs_Runs) fun x87 =>
      some (x87, true)) (
      lt ({ l := x38 } : runs_Runs) fun x93 =>
      some (x93, true))) xs put out x = some (r', g) ∧ giveP r' g l r at_ k := by
  intro xs
  induction xs with
  | nil =>
    intro pre put out x h
    have e : l = pre := by have := h.e; simpa using this
    subst e
    show ∃ r' g, cn (!put) (gu (apok out.length 1 16) <| some ((⟨out ++ [x]⟩ : runs_Runs), true)) (some ((⟨out⟩ : runs_Runs), true)) = some (r', g) ∧ _
    have hfree : ∀ p, at_ ≤ p → p < at_ + k → ¬ memI l p := fun p h1 h2 hm => h.free p hm ⟨h1, h2⟩
    cases put with
    | false =>
      obtain ⟨c1, c2, c3⟩ := h.off rfl
      have := c1.init.len
      rw [cn_true (b := !false) rfl, gu_true (apok_t (by omega) (by omega))]
      exact ⟨_, true, rfl, ⟨fun _ => hfree, fun _ => rfl⟩, fun h => (by cases h), fun _ => ⟨c1, c3⟩⟩
    | true =>
      obtain ⟨c1, c2, c3, c4⟩ := h.on rfl
      rw [cn_false (b := !true) rfl]
      exact ⟨_, true, rfl, ⟨fun _ => hfree, fun _ => rfl⟩, fun h => (by cases h), fun _ => ⟨c1, c4⟩⟩
  | cons q xs ih =>
    obtain ⟨qi, y⟩ := q
    intro pre put out x h
    have he : l = (pre ++ [y]) ++ xs.map Prod.snd := by rw [h.e]; simp
    have hyl : y ∈ l := by rw [h.e]; simp
    have hyr := hl.ran y hyl
    have hpre : ∀ z ∈ pre, z.At + z.N < y.At := fun z hz => by
      have hpw := hl.pw
      rw [he] at hpw
      exact (List.pairwise_append.1 (List.pairwise_append.1 hpw).1).2.2 z hz y (by simp)
    have hzr : ∀ z ∈ pre, 0 ≤ z.At ∧ 1 ≤ z.N ∧ z.At + z.N ≤ 64 := fun z hz => hl.ran z (by rw [h.e]; simp [hz])
    obtain ⟨o1, o2, o3⟩ := ho
    obtain ⟨lo1, lo2⟩ := h.lo
    obtain ⟨hi1, hi2⟩ := h.hi
    have hxr := h.ran
    have ey : runs_Run_end n y = some (y.At + y.N) := end_eq hyr
    have ex : runs_Run_end n x = some (x.At + x.N) := end_eq hxr
    have hfree : (∀ p, y.At ≤ p → p < y.At + y.N → ¬ (at_ ≤ p ∧ p < at_ + k)) → ∀ p, memI (pre ++ [y]) p → ¬ (at_ ≤ p ∧ p < at_ + k) := fun hy p hp => by
      rcases memI_app.1 hp with hp | hp
      · exact h.free p hp
      · obtain ⟨h1, h2⟩ := memI_one.1 hp; exact hy p h1 h2
    have hmpre : ∀ {z}, z ∈ pre → z ∈ pre ++ [y] := fun hz => by simp [hz]
    have hlo : x.At = at_ ∨ ∃ z ∈ pre ++ [y], z.At + z.N = at_ := lo2.imp id fun ⟨z, hz, e⟩ => ⟨z, hmpre hz, e⟩
    have hhi : x.At + x.N = at_ + k ∨ ∃ z ∈ pre ++ [y], z.At + z.N = x.At + x.N := hi2.imp id fun ⟨z, hz, e⟩ => ⟨z, hmpre hz, e⟩
    have hmy : ∀ p, memI (pre ++ [y]) p ↔ memI pre p ∨ (y.At ≤ p ∧ p < y.At + y.N) := fun p => by rw [memI_app, memI_one]
    have hput : put = true → x.At + x.N < y.At := fun hp => by obtain ⟨z, hz, h1⟩ := (h.on hp).2.2.1; have := hpre z hz; have := hzr z hz; omega
    simp only [itr3]
    dsimp only [lt]
    rw [bd_some ey]
    by_cases c1 : y.At + y.N < x.At
    · have hf : put = false := by
        cases put with
        | false => rfl
        | true => have := hput rfl; omega
      subst hf
      obtain ⟨d1, d2, d3⟩ := h.off rfl
      have hlen := d1.init.len
      rw [cn_true (by simpa using c1), gu_true (apok_t (by omega) (by omega))]
      refine ih (pre ++ [y]) false (out ++ [y]) x ⟨he, hfree fun p h1 h2 => by omega, ⟨lo1, hlo⟩, ⟨hi1, hhi⟩, hxr, fun _ => ⟨?_, ?_, fun p => ?_⟩, fun h => by cases h⟩
      · refine can_snoc (can_snoc d1.init hyr fun z hz => hpre z (d2 z hz)) hxr fun z hz => ?_
        rcases List.mem_append.1 hz with hz | hz
        · exact d1.last z hz
        · rw [List.mem_singleton.1 hz]; exact c1
      · intro z hz
        rcases List.mem_append.1 hz with hz | hz
        · exact hmpre (d2 z hz)
        · rw [List.mem_singleton.1 hz]; simp
      · have := d3 p
        rw [memI_app, memI_one] at this ⊢
        rw [memI_app, memI_one, hmy]
        constructor
        · rintro ((c | c) | c)
          · rcases this.1 (.inl c) with c | c
            · exact .inl (.inl c)
            · exact .inr c
          · exact .inl (.inr c)
          · rcases this.1 (.inr c) with c | c
            · exact .inl (.inl c)
            · exact .inr c
        · rintro ((c | c) | c)
          · rcases this.2 (.inl c) with c | c
            · exact .inl (.inl c)
            · exact .inr c
          · exact .inl (.inr c)
          · rcases this.2 (.inr c) with c | c
            · exact .inl (.inl c)
            · exact .inr c
    rw [cn_false (by simpa using c1), bd_some ex]
    by_cases c2 : x.At + x.N < y.At
    · rw [cn_true (by simpa using c2)]
      have hfr := hfree fun p h1 h2 => by omega
      cases put with
      | false =>
        obtain ⟨d1, d2, d3⟩ := h.off rfl
        have hlen := d1.init.len
        have hlen2 := d1.len
        rw [cn_true (b := !false) rfl, gu_true (apok_t (by omega) (by omega)), gu_true (apok_t (by omega) (by omega))]
        refine ih (pre ++ [y]) true (out ++ [x] ++ [y]) x ⟨he, hfr, ⟨lo1, hlo⟩, ⟨hi1, hhi⟩, hxr, fun h => (by cases h), fun _ => ⟨?_, ?_, ⟨y, by simp, c2⟩, fun p => ?_⟩⟩
        · refine can_snoc d1 hyr fun z hz => ?_
          rcases List.mem_append.1 hz with hz | hz
          · exact hpre z (d2 z hz)
          · rw [List.mem_singleton.1 hz]; exact c2
        · intro z hz
          simp only [List.mem_append, List.mem_singleton] at hz
          rcases hz with (hz | hz) | hz
          · exact .inl (hmpre (d2 z hz))
          · exact .inr hz
          · exact .inl (by simp [hz])
        · rw [memI_app, memI_one, d3 p, hmy]
          constructor
          · rintro ((c | c) | c)
            · exact .inl (.inl c)
            · exact .inr c
            · exact .inl (.inr c)
          · rintro ((c | c) | c)
            · exact .inl (.inl c)
            · exact .inr c
            · exact .inl (.inr c)
      | true =>
        obtain ⟨d1, d2, d3, d4⟩ := h.on rfl
        have hlen := d1.len
        rw [cn_false (b := !true) rfl, gu_true (apok_t (by omega) (by omega))]
        refine ih (pre ++ [y]) true (out ++ [y]) x ⟨he, hfr, ⟨lo1, hlo⟩, ⟨hi1, hhi⟩, hxr, fun h => (by cases h), fun _ => ⟨?_, ?_, ⟨y, by simp, c2⟩, fun p => ?_⟩⟩
        · refine can_snoc d1 hyr fun z hz => ?_
          rcases d2 z hz with hz | rfl
          · exact hpre z hz
          · exact c2
        · intro z hz
          rcases List.mem_append.1 hz with hz | hz
          · exact (d2 z hz).imp hmpre id
          · exact .inl (by simp [List.mem_singleton.1 hz])
        · rw [memI_app, memI_one, d4 p, hmy]
          constructor
          · rintro ((c | c) | c)
            · exact .inl (.inl c)
            · exact .inr c
            · exact .inl (.inr c)
          · rintro ((c | c) | c)
            · exact .inl (.inl c)
            · exact .inr c
            · exact .inl (.inr c)
    have hf : put = false := by
      cases put with
      | false => rfl
      | true => have := hput rfl; omega
    subst hf
    obtain ⟨d1, d2, d3⟩ := h.off rfl
    rw [cn_false (by simpa using c2), bd_some ey]
    by_cases c3 : y.At + y.N = x.At
    · rw [cn_true (by simpa using c3), w_i64 (by omega) (by omega)]
      have hat : x.At = at_ := by
        rcases lo2 with e | ⟨z, hz, e⟩
        · exact e
        · have := hpre z hz; omega
      refine ih (pre ++ [y]) false out ⟨y.At, y.N + x.N⟩ ⟨he, hfree fun p h1 h2 => by omega, ⟨by dsimp only; omega, .inr ⟨y, by simp, by omega⟩⟩, ⟨by dsimp only; omega, ?_⟩, by dsimp only; omega, fun _ => ⟨?_, fun z hz => hmpre (d2 z hz), fun p => ?_⟩, fun h => by cases h⟩
      · rcases hhi with e | ⟨z, hz, e⟩
        · exact .inl (by dsimp only; omega)
        · exact .inr ⟨z, hz, by dsimp only; omega⟩
      · exact can_snoc d1.init (by dsimp only; omega) fun z hz => hpre z (d2 z hz)
      · have := d3 p
        rw [memI_app, memI_one] at this ⊢
        rw [hmy]
        dsimp only
        constructor
        · rintro (c | c)
          · rcases this.1 (.inl c) with c | c
            · exact .inl (.inl c)
            · exact .inr c
          · by_cases hp : p < x.At
            · exact .inl (.inr (by omega))
            · rcases this.1 (.inr (by omega)) with c | c
              · exact .inl (.inl c)
              · exact .inr c
        · rintro ((c | c) | c)
          · rcases this.2 (.inl c) with c | c
            · exact .inl c
            · exact .inr (by omega)
          · exact .inr (by omega)
          · exact .inr (by omega)
    rw [cn_false (by simpa using c3), bd_some ex]
    by_cases c4 : y.At = x.At + x.N
    · rw [cn_true (by simpa using c4), w_i64 (by omega) (by omega)]
      refine ih (pre ++ [y]) false out ⟨x.At, x.N + y.N⟩ ⟨he, hfree fun p h1 h2 => by omega, ⟨lo1, hlo⟩, ⟨by dsimp only; omega, .inr ⟨y, by simp, by dsimp only; omega⟩⟩, by dsimp only; omega, fun _ => ⟨?_, fun z hz => hmpre (d2 z hz), fun p => ?_⟩, fun h => by cases h⟩
      · exact can_snoc d1.init (by dsimp only; omega) fun z hz => d1.last z hz
      · have := d3 p
        rw [memI_app, memI_one] at this ⊢
        rw [hmy]
        dsimp only
        constructor
        · rintro (c | c)
          · rcases this.1 (.inl c) with c | c
            · exact .inl (.inl c)
            · exact .inr c
          · by_cases hp : p < x.At + x.N
            · rcases this.1 (.inr (by omega)) with c | c
              · exact .inl (.inl c)
              · exact .inr c
            · exact .inl (.inr (by omega))
        · rintro ((c | c) | c)
          · rcases this.2 (.inl c) with c | c
            · exact .inl c
            · exact .inr (by omega)
          · exact .inr (by omega)
          · exact .inr (by omega)
    rw [cn_false (by simpa using c4)]
    refine ⟨r, false, rfl, ⟨fun h => (by cases h), fun hno => ?_⟩, fun _ => rfl, fun h => (by cases h)⟩
    have g1 : y.At < at_ + k := by
      rcases hi2 with e | ⟨z, hz, e⟩
      · omega
      · have := hpre z hz; omega
    have g2 : at_ < y.At + y.N := by
      rcases lo2 with e | ⟨z, hz, e⟩
      · omega
      · have := hpre z hz; omega
    by_cases g3 : at_ ≤ y.At
    · exact absurd ⟨y, hyl, by omega, by omega⟩ (hno y.At g3 g1)
    · exact absurd ⟨y, hyl, by omega, by omega⟩ (hno at_ (by omega) (by omega))
theorem give_eq {n : Nat} (hn : 110 ≤ n) {r : runs_Runs} (hr : Can r.l) {at_ k : Int} (ha : I64 at_) (hk : I64 k) :
    ∃ r' g, runs_Runs_Give n r at_ k = some (r', g) ∧ (g = true ↔ okR at_ k ∧ ∀ p, at_ ≤ p → p < at_ + k → ¬ memI r.l p) ∧ (g = false → r' = r) ∧ (g = true → Can r'.l ∧ ∀ p, memI r'.l p ↔ memI r.l p ∨ (at_ ≤ p ∧ p < at_ + k)) := by
  unfold runs_Runs_Give
  rw [lt_eq]
  obtain ⟨b, hb, hb'⟩ := may_eq (n := n) ha hk
  rw [bd_some hb]
  cases b with
  | false => exact ⟨r, false, rfl, ⟨fun h => (by cases h), fun h => hb'.2 h.1⟩, fun _ => rfl, fun h => (by cases h)⟩
  | true =>
    have ho := hb'.1 rfl
    obtain ⟨o1, o2, o3⟩ := ho
    rw [cn_false (b := !true) rfl, bd_some (each_eq n r)]
    obtain ⟨xs, h1, h2⟩ := all_eq (n := n) (l := r.l) (by have := hr.len; omega) hn
    rw [bd_some h1]
    obtain ⟨r', g, h3, h4, h5, h6⟩ := give_it (n := n) (r := r) hr (at_ := at_) (k := k) ⟨o1, o2, o3⟩ xs [] false [] ⟨at_, k⟩ ⟨by simpa using h2.symm, fun p hp => absurd hp (memI_nil p), ⟨Int.le_refl _, .inl rfl⟩, ⟨Int.le_refl _, .inl rfl⟩, ⟨o2, o1, o3⟩,
      fun _ => ⟨can_snoc Can.nil ⟨o2, o1, o3⟩ (by simp), by simp, fun p => by rw [List.nil_append, memI_one]; simp [memI_nil]⟩, fun h => by cases h⟩
    exact ⟨r', g, h3, ⟨fun hg => ⟨⟨o1, o2, o3⟩, h4.1 hg⟩, fun hg => h4.2 hg.2⟩, h5, h6⟩
end Go.Proofs.Ytmdpbdhkmfjlhaa

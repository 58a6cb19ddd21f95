/- Decompiled: package table, its document's answer, its statements. -/
import Derived.Test.YtmdpbdhkmfjlhaaTypes
import Derived.Test.YtmdpbdhkmfjlhaaMap2
import Derived.Test.YtmdpbdhkmfjlhaaDRef03
import Derived.Test.YtmdpbdhkmfjlhaaDExtent
namespace Go.Proofs.Ytmdpbdhkmfjlhaa
open Go Go.Bw
structure ref05_Region where
  Up : Int
  Quota : Int
  E : ref04_Extent
  Cells : (Nat → Int)
abbrev L_ref05_Region : Lay ref05_Region := Lay.via (LP (LI .i64) (LP (LI .i64) (LP L_ref04_Extent (LA (LI .i64) 8)))) (fun x => (x.Up, x.Quota, x.E, x.Cells))
abbrev Z_ref05_Region : ref05_Region := ⟨0, 0, Z_ref04_Extent, (fun _ => 0)⟩
instance : Inhabited ref05_Region := ⟨Z_ref05_Region⟩
def zc_ref05_Region : List Value := [.int .i64 0] ++ ([.int .i64 0] ++ (zc_ref04_Extent ++ ((((LA (LI .i64) 8)).enc (fun _ => 0)))))
theorem zr_ref05_Region {A : World → Prop} : L_ref05_Region.rep A zc_ref05_Region Z_ref05_Region := ⟨_, _, rfl, rfl, ⟨_, _, rfl, rfl, ⟨_, _, rfl, zr_ref04_Extent, (FlatL.iff.2 rfl)⟩⟩⟩
theorem P_ref05_Region_Up : Pth L_ref05_Region (LI .i64) 0 (fun x => x.Up) (fun x v => { x with Up := v }) := (Pth.fst Pth.id).via _ _ _ 0 rfl (fun _ => rfl) (fun _ _ => rfl)
theorem P_ref05_Region_Quota : Pth L_ref05_Region (LI .i64) 1 (fun x => x.Quota) (fun x v => { x with Quota := v }) := (Pth.snd (Pth.fst Pth.id)).via _ _ _ 1 rfl (fun _ => rfl) (fun _ _ => rfl)
theorem P_ref05_Region_E : Pth L_ref05_Region L_ref04_Extent 2 (fun x => x.E) (fun x v => { x with E := v }) := (Pth.snd (Pth.snd (Pth.fst Pth.id))).via _ _ _ 2 rfl (fun _ => rfl) (fun _ _ => rfl)
theorem P_ref05_Region_Cells : Pth L_ref05_Region (LA (LI .i64) 8) 4 (fun x => x.Cells) (fun x v => { x with Cells := v }) := (Pth.snd (Pth.snd (Pth.snd Pth.id))).via _ _ _ 4 rfl (fun _ => rfl) (fun _ _ => rfl)
structure ref05_Table where
  B : ref03_Book
  R : (Nat → ref05_Region)
abbrev L_ref05_Table : Lay ref05_Table := Lay.via (LP L_ref03_Book (LA L_ref05_Region 32)) (fun x => (x.B, x.R))
abbrev Z_ref05_Table : ref05_Table := ⟨Z_ref03_Book, (fun _ => Z_ref05_Region)⟩
instance : Inhabited ref05_Table := ⟨Z_ref05_Table⟩
def zc_ref05_Table : List Value := ((L_ref03_Book).enc Z_ref03_Book) ++ ((flat (fun _ => zc_ref05_Region) 32))
theorem zr_ref05_Table {A : World → Prop} : L_ref05_Table.rep A zc_ref05_Table Z_ref05_Table := ⟨_, _, rfl, (FlatL.iff.2 rfl), ⟨_, rfl, fun _ _ => zr_ref05_Region⟩⟩
theorem P_ref05_Table_B : Pth L_ref05_Table L_ref03_Book 0 (fun x => x.B) (fun x v => { x with B := v }) := (Pth.fst Pth.id).via _ _ _ 0 rfl (fun _ => rfl) (fun _ _ => rfl)
theorem P_ref05_Table_R : Pth L_ref05_Table (LA L_ref05_Region 32) 64 (fun x => x.R) (fun x v => { x with R := v }) := (Pth.snd Pth.id).via _ _ _ 64 rfl (fun _ => rfl) (fun _ _ => rfl)
def ref05_Table_Good (n : Nat) (a0 : ref05_Table) (a1 : Int) : Option Bool :=
  bd (ref03_Book_Slot n a0.B a1) fun x21 =>
  some (decide (0 ≤ x21))
theorem c_ref05_Table_Good {n : Nat} {a0 : ref05_Table} {a1 : Int} {r : Bool} {K : World → Prop} [Stable K] {cs0 : List Value} (f0 : (L_ref05_Table).rep K cs0 a0) (h : ref05_Table_Good n a0 a1 = some r) : FnW Try.prog 45 [.agg cs0.toArray, .int .i64 a1] K (.bool r) := by
  unfold ref05_Table_Good at h
  refine fn_of Try.func45 (by kernel_rfl) rfl Try.ntmps45 rfl (fun cx hbs hpre hro => ?_)
  haveI := knf_pre hbs hpre
  refine WP_seq ?_
  refine WP_region ?_
  refine WL_x rfl (RX_boxa rfl) (fun b2 _ => ?_)
  refine WL_v rfl (VS_assign rfl) ?_
  refine WL_nil ?_
  refine WQ_then ?_
  refine WP_seq ?_
  obtain ⟨x21, hx21, h⟩ := bd_e h
  refine WP_region ?_
  refine WL_v rfl (VS_field0 rfl) ?_
  refine WL_v rfl (VS_loadpart rfl (FlatL.iff.1 (P_ref05_Table_B.get f0)) (enc_len _ _)) ?_
  refine WL_v rfl (VS_move rfl) ?_
  refine WL_v rfl (VS_call (c_ref03_Book_Slot hx21) rfl (fun _ _ _ => trivial)) ?_
  refine WL_v rfl (VS_geq rfl rfl) ?_
  refine WL_v rfl (VS_assign rfl) ?_
  refine WL_nil ?_
  refine WQ_then ?_
  refine WP_ret ?_
  replace h := Option.some.inj h
  subst h
  exact WQ_ret () rfl (.tmp rfl .nil) trivial rfl (ks := []) rfl (by decide)
structure table_book where
  Book : handle_Book
abbrev L_table_book : Lay table_book := Lay.via L_handle_Book (fun x => x.Book)
abbrev Z_table_book : table_book := ⟨Z_handle_Book⟩
instance : Inhabited table_book := ⟨Z_table_book⟩
theorem P_table_book_Book : Pth L_table_book L_handle_Book 0 (fun x => x.Book) (fun x v => { x with Book := v }) := Pth.id.via _ _ _ 0 rfl (fun _ => rfl) (fun _ _ => rfl)
structure table_Region where
  Up : Int
  Quota : Int
  E : extent_Extent
  Cells : (Nat → Int)
abbrev L_table_Region : Lay table_Region := Lay.via (LP (LI .u32) (LP (LI .i64) (LP L_extent_Extent (LA (LI .u32) 8)))) (fun x => (x.Up, x.Quota, x.E, x.Cells))
abbrev Z_table_Region : table_Region := ⟨0, 0, Z_extent_Extent, (fun _ => 0)⟩
instance : Inhabited table_Region := ⟨Z_table_Region⟩
def zc_table_Region : List Value := [.int .u32 0] ++ ([.int .i64 0] ++ (zc_extent_Extent ++ ((((LA (LI .u32) 8)).enc (fun _ => 0)))))
theorem zr_table_Region {A : World → Prop} : L_table_Region.rep A zc_table_Region Z_table_Region := ⟨_, _, rfl, rfl, ⟨_, _, rfl, rfl, ⟨_, _, rfl, zr_extent_Extent, (FlatL.iff.2 rfl)⟩⟩⟩
theorem P_table_Region_Up : Pth L_table_Region (LI .u32) 0 (fun x => x.Up) (fun x v => { x with Up := v }) := (Pth.fst Pth.id).via _ _ _ 0 rfl (fun _ => rfl) (fun _ _ => rfl)
theorem P_table_Region_Quota : Pth L_table_Region (LI .i64) 1 (fun x => x.Quota) (fun x v => { x with Quota := v }) := (Pth.snd (Pth.fst Pth.id)).via _ _ _ 1 rfl (fun _ => rfl) (fun _ _ => rfl)
theorem P_table_Region_E : Pth L_table_Region L_extent_Extent 2 (fun x => x.E) (fun x v => { x with E := v }) := (Pth.snd (Pth.snd (Pth.fst Pth.id))).via _ _ _ 2 rfl (fun _ => rfl) (fun _ _ => rfl)
theorem P_table_Region_Cells : Pth L_table_Region (LA (LI .u32) 8) 4 (fun x => x.Cells) (fun x v => { x with Cells := v }) := (Pth.snd (Pth.snd (Pth.snd Pth.id))).via _ _ _ 4 rfl (fun _ => rfl) (fun _ _ => rfl)
structure table_Table where
  book : table_book
  regions : (Nat → table_Region)
abbrev L_table_Table : Lay table_Table := Lay.via (LP L_table_book (LA L_table_Region 32)) (fun x => (x.book, x.regions))
abbrev Z_table_Table : table_Table := ⟨Z_table_book, (fun _ => Z_table_Region)⟩
instance : Inhabited table_Table := ⟨Z_table_Table⟩
def zc_table_Table : List Value := ((L_table_book).enc Z_table_book) ++ ((flat (fun _ => zc_table_Region) 32))
theorem zr_table_Table {A : World → Prop} : L_table_Table.rep A zc_table_Table Z_table_Table := ⟨_, _, rfl, (FlatL.iff.2 rfl), ⟨_, rfl, fun _ _ => zr_table_Region⟩⟩
theorem P_table_Table_book : Pth L_table_Table L_table_book 0 (fun x => x.book) (fun x v => { x with book := v }) := (Pth.fst Pth.id).via _ _ _ 0 rfl (fun _ => rfl) (fun _ _ => rfl)
theorem P_table_Table_regions : Pth L_table_Table (LA L_table_Region 32) 96 (fun x => x.regions) (fun x v => { x with regions := v }) := (Pth.snd Pth.id).via _ _ _ 96 rfl (fun _ => rfl) (fun _ _ => rfl)
def table_Table_up (n : Nat) (a0 : table_Table) (a1 : Int) : Option Int :=
  bd (handle_Handle_Slot n a1) fun x21 =>
  gu (inb x21.1 32) <|
  bd (handle_Book_Good n a0.book.Book ((a0.regions (Int.toNat x21.1)).Up)) fun x23 =>
  cn (x23) (
  some ((a0.regions (Int.toNat x21.1)).Up)) (
  some 0)
theorem c_table_Table_up {n : Nat} {a0 : table_Table} {a1 : Int} {r : Int} {K : World → Prop} [Stable K] {cs0 : List Value} (f0 : (L_table_Table).rep K cs0 a0) (h : table_Table_up n a0 a1 = some r) : FnW Try.prog 105 [.agg cs0.toArray, .int .u32 a1] K (.int .u32 r) := by
  unfold table_Table_up at h
  refine fn_of Try.func105 (by kernel_rfl) rfl Try.ntmps105 rfl (fun cx hbs hpre hro => ?_)
  haveI := knf_pre hbs hpre
  refine WP_seq ?_
  refine WP_region ?_
  refine WL_x rfl (RX_boxa rfl) (fun b2 _ => ?_)
  refine WL_v rfl (VS_assign rfl) ?_
  refine WL_nil ?_
  refine WQ_then ?_
  refine WP_seq ?_
  obtain ⟨x21, hx21, h⟩ := bd_e h
  refine WP_region ?_
  refine WL_v rfl (VS_move rfl) ?_
  refine WL_v rfl (VS_call (c_handle_Handle_Slot hx21) rfl (fun _ _ _ => trivial)) ?_
  refine WL_v rfl (VS_move rfl) ?_
  refine WL_v rfl (VS_extract rfl rfl) ?_
  refine WL_v rfl (VS_extract rfl rfl) ?_
  refine WL_v rfl (VS_assign rfl) ?_
  refine WL_v rfl (VS_assign rfl) ?_
  refine WL_nil ?_
  refine WQ_then ?_
  refine WP_seq ?_
  refine WP_seq ?_
  obtain ⟨hg22, h⟩ := gu_e h
  refine WP_region ?_
  refine WL_v rfl (VS_move rfl) ?_
  refine WL_v rfl (VS_field0 rfl) ?_
  refine WL_v rfl (VS_index (m := (Int.toNat x21.1)) rfl rfl (inb_e hg22).1 (inb_e hg22).2) ?_
  refine WL_v rfl (VS_field rfl) ?_
  refine WL_v rfl (VS_load rfl (((P_table_Table_regions.comp (Pth.idx (L := L_table_Region) (m := 32) (k := 12) ((Int.toNat x21.1)) (inb_e hg22).2 rfl)).comp P_table_Region_Up).int f0)) ?_
  refine WL_v rfl (VS_assign rfl) ?_
  refine WL_nil ?_
  refine WQ_then ?_
  refine WP_seq ?_
  obtain ⟨x23, hx23, h⟩ := bd_e h
  refine WP_region ?_
  refine WL_v rfl (VS_field0 rfl) ?_
  refine WL_v rfl (VS_field0 rfl) ?_
  refine WL_v rfl (VS_loadpart rfl (FlatL.iff.1 ((P_table_Table_book.c0 P_table_book_Book).get f0)) (enc_len _ _)) ?_
  refine WL_v rfl (VS_move rfl) ?_
  refine WL_v rfl (VS_call (c_handle_Book_Good hx23) rfl (fun _ _ _ => trivial)) ?_
  refine WL_nil ?_
  refine WQ_then ?_
  refine WP_if rfl (fun hc => ?_) (fun hc => ?_)
  ·
    replace h := cn_t hc h
    refine WP_seq ?_
    refine WP_region ?_
    refine WL_v rfl (VS_move rfl) ?_
    refine WL_v rfl (VS_assign rfl) ?_
    refine WL_nil ?_
    refine WQ_then ?_
    refine WP_ret ?_
    refine WQ_then_ret ?_
    replace h := Option.some.inj h
    subst h
    exact WQ_ret () rfl (.tmp rfl .nil) trivial rfl (ks := []) rfl (by decide)
  ·
    replace h := cn_f hc h
    refine WP_skip ?_
    refine WQ_then ?_
    refine WP_seq ?_
    refine WP_region ?_
    refine WL_v rfl (VS_assign rfl) ?_
    refine WL_nil ?_
    refine WQ_then ?_
    refine WP_ret ?_
    replace h := Option.some.inj h
    subst h
    exact WQ_ret () rfl (.tmp rfl .nil) trivial rfl (ks := []) rfl (by decide)
def table_Table_Get (n : Nat) (a0 : table_Table) (a1 : Int) : Option (table_Region × Int) :=
  bd (handle_Book_Good n a0.book.Book a1) fun x21 =>
  cn ((!x21)) (
  lt ({ Up := 0, Quota := 0, E := Z_extent_Extent, Cells := (fun _ => 0) } : table_Region) fun x22 =>
  some (x22, 4)) (
  bd (handle_Handle_Slot n a1) fun x28 =>
  gu (inb x28.1 32) <|
  lt ((a0.regions (Int.toNat x28.1)) : table_Region) fun x32 =>
  bd (table_Table_up n a0 a1) fun x35 =>
  lt ({ x32 with Up := x35 } : table_Region) fun x36 =>
  some (x36, 0))
theorem c_table_Table_Get {n : Nat} {a0 : table_Table} {a1 : Int} {r : table_Region × Int} {K : World → Prop} [Stable K] {cs0 : List Value} (f0 : (L_table_Table).rep K cs0 a0) (h : table_Table_Get n a0 a1 = some r) : FnB Try.prog 39 [.agg cs0.toArray, .int .u32 a1] K (fun J v => ∃ u0, v = (.tuple #[.agg u0.toArray, .int .i64 r.2]) ∧ (L_table_Region).rep (fun w => K w ∧ J w) u0 (r.1)) := by
  unfold table_Table_Get at h
  refine fn_of Try.func39 (by kernel_rfl) rfl Try.ntmps39 rfl (fun cx hbs hpre hro => ?_)
  haveI := knf_pre hbs hpre
  refine WP_seq ?_
  refine WP_region ?_
  refine WL_x rfl (RX_boxa rfl) (fun b2 _ => ?_)
  refine WL_x rfl (RX_alloc (hz := (⟨by kernel_rfl⟩ : TZero Try.prog 74 zc_table_Region))) (fun b4 _ => ?_)
  refine WL_v rfl (VS_assign rfl) ?_
  refine WL_nil ?_
  refine WQ_then ?_
  refine WP_seq ?_
  refine WP_seq ?_
  obtain ⟨x21, hx21, h⟩ := bd_e h
  refine WP_region ?_
  refine WL_v rfl (VS_field0 rfl) ?_
  refine WL_v rfl (VS_field0 rfl) ?_
  refine WL_v rfl (VS_loadpart rfl (FlatL.iff.1 ((P_table_Table_book.c0 P_table_book_Book).get f0)) (enc_len _ _)) ?_
  refine WL_v rfl (VS_move rfl) ?_
  refine WL_v rfl (VS_call (c_handle_Book_Good hx21) rfl (fun _ _ _ => trivial)) ?_
  refine WL_v rfl (VS_not rfl) ?_
  refine WL_nil ?_
  refine WQ_then ?_
  refine WP_if rfl (fun hc => ?_) (fun hc => ?_)
  ·
    replace h := cn_t hc h
    refine WP_seq ?_
    obtain ⟨x22, hx22, h⟩ := lt_e h
    refine WP_region ?_
    obtain ⟨c23, hc23, f24⟩ : ∃ cc, (((LI .u32).enc 0) ++ (((LI .i64).enc 0) ++ (zc_extent_Extent ++ ((LA (LI .u32) 8).enc (fun _ => 0))))) = cc ∧ (L_table_Region).rep (Hs []) cc x22 := ⟨_, rfl, by rw [hx22]; exact ⟨_, _, rfl, (FlatL.iff.2 rfl), ⟨_, _, rfl, (FlatL.iff.2 rfl), ⟨_, _, rfl, zr_extent_Extent, (FlatL.iff.2 rfl)⟩⟩⟩⟩
    refine WL_v rfl (VS_build (cs := c23) rfl (by rw [← hc23]; rfl)) ?_
    obtain ⟨c25, hc25, f26⟩ : ∃ cc, splice zc_table_Region 0 c23 = cc ∧ (L_table_Region).rep (Hs []) cc x22 := ⟨_, rfl, (Pth.id (L := L_table_Region)).set (Lay.mono _ ent (show (L_table_Region).rep (Hs []) zc_table_Region Z_table_Region from zr_table_Region)) (Lay.mono _ ent f24)⟩
    refine WL_x0 (RX_stN c23 (Pth.id (L := L_table_Region)) (v := x22) (r := (show (L_table_Region).rep (Hs []) zc_table_Region Z_table_Region from zr_table_Region)) (rv := ((Lay.mono _ ent f24) : (L_table_Region).rep (Hs []) c23 x22)) rfl rfl rfl rfl hc25) (fun _ _ => ?_)
    refine WL_v rfl (VS_assign rfl) ?_
    refine WL_nil ?_
    refine WQ_then ?_
    refine WP_ret ?_
    refine WQ_then_ret ?_
    replace h := Option.some.inj h
    subst h
    refine WQ_bundle (R := []) (H' := [.cells b4 74 c25]) (ks := [0]) rfl (by decide) ?_
    have p27 : (L_table_Region).rep (fun w => K w ∧ (Hs [.ext (blks []) (Hs [])]) w) c25 x22 := Lay.mono _ ent f26
    exact WQ_ret (.tuple #[.agg c25.toArray, .int .i64 4], blks [], Hs []) rfl (.agg rfl inferInstance inferInstance (Lay.len _ f26) (.tmp rfl .nil)) ⟨_, rfl, p27⟩ rfl (ks := [0]) rfl (by decide)
  ·
    replace h := cn_f hc h
    refine WP_skip ?_
    refine WQ_then ?_
    refine WP_seq ?_
    obtain ⟨x28, hx28, h⟩ := bd_e h
    refine WP_region ?_
    refine WL_v rfl (VS_move rfl) ?_
    refine WL_v rfl (VS_call (c_handle_Handle_Slot hx28) rfl (fun _ _ _ => trivial)) ?_
    refine WL_v rfl (VS_move rfl) ?_
    refine WL_v rfl (VS_extract rfl rfl) ?_
    refine WL_v rfl (VS_extract rfl rfl) ?_
    refine WL_v rfl (VS_assign rfl) ?_
    refine WL_v rfl (VS_assign rfl) ?_
    refine WL_nil ?_
    refine WQ_then ?_
    refine WP_seq ?_
    obtain ⟨hg29, h⟩ := gu_e h
    obtain ⟨x32, hx32, h⟩ := lt_e h
    refine WP_region ?_
    refine WL_v rfl (VS_move rfl) ?_
    refine WL_v rfl (VS_field0 rfl) ?_
    refine WL_v rfl (VS_index (m := (Int.toNat x28.1)) rfl rfl (inb_e hg29).1 (inb_e hg29).2) ?_
    obtain ⟨c30, hc30, f31⟩ := rep_ex ((P_table_Table_regions.comp (Pth.idx (L := L_table_Region) (m := 32) (k := 12) ((Int.toNat x28.1)) (inb_e hg29).2 rfl)).get f0)
    refine WL_v rfl (VS_loadpart rfl hc30 (Lay.len _ f31)) ?_
    refine WL_x rfl (RX_alloc (hz := (⟨by kernel_rfl⟩ : TZero Try.prog 74 zc_table_Region))) (fun b8 _ => ?_)
    obtain ⟨c33, hc33, f34⟩ : ∃ cc, splice zc_table_Region 0 c30 = cc ∧ (L_table_Region).rep K cc x32 := ⟨_, rfl, by rw [hx32]; exact (Pth.id (L := L_table_Region)).set (Lay.mono _ ent (show (L_table_Region).rep (Hs []) zc_table_Region Z_table_Region from zr_table_Region)) (Lay.mono _ ent f31)⟩
    refine WL_x0 (RX_stN c30 (Pth.id (L := L_table_Region)) (v := (a0.regions (Int.toNat x28.1))) (r := (show (L_table_Region).rep (Hs []) zc_table_Region Z_table_Region from zr_table_Region)) (rv := ((Lay.mono _ ent f31) : (L_table_Region).rep K c30 (a0.regions (Int.toNat x28.1)))) rfl rfl rfl rfl hc33) (fun _ _ => ?_)
    refine WL_nil ?_
    refine WQ_then ?_
    refine WP_seq ?_
    obtain ⟨x35, hx35, h⟩ := bd_e h
    obtain ⟨x36, hx36, h⟩ := lt_e h
    refine WP_region ?_
    refine WL_v rfl (VS_loadall rfl (Lay.len _ f0)) ?_
    refine WL_v rfl (VS_move rfl) ?_
    refine WL_v rfl (VS_call (c_table_Table_up (K := K) (Lay.mono _ ent f0) hx35) rfl kn) ?_
    refine WL_v rfl (VS_field0 rfl) ?_
    obtain ⟨c37, hc37, f38⟩ : ∃ cc, splice c33 0 ((LI .u32).enc x35) = cc ∧ (L_table_Region).rep K cc x36 := ⟨_, rfl, by rw [hx36]; exact P_table_Region_Up.set (Lay.mono _ ent f34) (FlatL.iff.2 rfl)⟩
    refine WL_x0 (RX_stN ((LI .u32).enc x35) P_table_Region_Up (v := x35) (r := f34) (rv := ((FlatL.iff.2 rfl) : ((LI .u32)).rep K ((LI .u32).enc x35) x35)) rfl rfl rfl rfl hc37) (fun _ _ => ?_)
    refine WL_nil ?_
    refine WQ_then ?_
    refine WP_seq ?_
    refine WP_region ?_
    refine WL_v rfl (VS_loadall rfl (Lay.len _ f38)) ?_
    obtain ⟨c39, hc39, f40⟩ : ∃ cc, splice zc_table_Region 0 c37 = cc ∧ (L_table_Region).rep K cc x36 := ⟨_, rfl, (Pth.id (L := L_table_Region)).set (Lay.mono _ ent (show (L_table_Region).rep (Hs []) zc_table_Region Z_table_Region from zr_table_Region)) (Lay.mono _ ent f38)⟩
    refine WL_x0 (RX_stN c37 (Pth.id (L := L_table_Region)) (v := x36) (r := (show (L_table_Region).rep (Hs []) zc_table_Region Z_table_Region from zr_table_Region)) (rv := ((Lay.mono _ ent f38) : (L_table_Region).rep K c37 x36)) rfl rfl rfl rfl hc39) (fun _ _ => ?_)
    refine WL_v rfl (VS_assign rfl) ?_
    refine WL_nil ?_
    refine WQ_then ?_
    refine WP_ret ?_
    replace h := Option.some.inj h
    subst h
    refine WQ_bundle (R := []) (H' := [.cells b4 74 c39]) (ks := [1]) rfl (by decide) ?_
    have p41 : (L_table_Region).rep (fun w => K w ∧ (Hs [.ext (blks []) (Hs [])]) w) c39 x36 := Lay.mono _ ent f40
    exact WQ_ret (.tuple #[.agg c39.toArray, .int .i64 0], blks [], Hs []) rfl (.agg rfl inferInstance inferInstance (Lay.len _ f40) (.tmp rfl .nil)) ⟨_, rfl, p41⟩ rfl (ks := [0]) rfl (by decide)
def ref05_Table_Drop (n : Nat) (a0 : ref05_Table) (a1 : Int) : Option (ref05_Table × Int) :=
  bd (ref03_Book_Slot n a0.B a1) fun x21 =>
  cn (decide (x21 < 0)) (
  some (a0, 4)) (
  bd (ref03_Book_Void n a0.B a1) fun x25 =>
  lt ({ a0 with B := x25.1 } : ref05_Table) fun x26 =>
  lt ({ Up := 0, Quota := 0, E := Z_ref04_Extent, Cells := (fun _ => 0) } : ref05_Region) fun x29 =>
  gu (inb x21 32) <|
  lt ({ x26 with R := (upd x26.R (Int.toNat x21) x29) } : ref05_Table) fun x33 =>
  loop2 (fun k51 (x45 : Int) (x46 : ref05_Table) =>
  cn (decide (x45 < 32)) (
  gu (inb x45 32) <|
  cn ((((x46.R (Int.toNat x45)).Up) == a1)) (
  gu (inb x45 32) <|
  lt ({ x46 with R := (upd x46.R (Int.toNat x45) ({ (x46.R (Int.toNat x45)) with Up := 0 })) } : ref05_Table) fun x54 =>
  k51 (wr .i64 (x45 + 1)) x54) (
  k51 (wr .i64 (x45 + 1)) x46)) (
  some (x46, 0))) n 0 x33)
theorem c_ref05_Table_Drop {n : Nat} {a0 : ref05_Table} {a1 : Int} {r : ref05_Table × Int} {K : World → Prop} [Stable K] {cs0 : List Value} (f0 : (L_ref05_Table).rep K cs0 a0) (h : ref05_Table_Drop n a0 a1 = some r) : FnB Try.prog 110 [.agg cs0.toArray, .int .i64 a1] K (fun J v => ∃ u0, v = (.tuple #[.agg u0.toArray, .int .i64 r.2]) ∧ (L_ref05_Table).rep (fun w => K w ∧ J w) u0 (r.1)) := by
  unfold ref05_Table_Drop at h
  refine fn_of Try.func110 (by kernel_rfl) rfl Try.ntmps110 rfl (fun cx hbs hpre hro => ?_)
  haveI := knf_pre hbs hpre
  refine WP_seq ?_
  refine WP_region ?_
  refine WL_x rfl (RX_boxa rfl) (fun b2 _ => ?_)
  refine WL_x rfl (RX_alloc (hz := (⟨by kernel_rfl⟩ : TZero Try.prog 105 zc_ref05_Table))) (fun b4 _ => ?_)
  refine WL_v rfl (VS_assign rfl) ?_
  refine WL_nil ?_
  refine WQ_then ?_
  refine WP_seq ?_
  obtain ⟨x21, hx21, h⟩ := bd_e h
  refine WP_region ?_
  refine WL_v rfl (VS_field0 rfl) ?_
  refine WL_v rfl (VS_loadpart rfl (FlatL.iff.1 (P_ref05_Table_B.get f0)) (enc_len _ _)) ?_
  refine WL_v rfl (VS_move rfl) ?_
  refine WL_v rfl (VS_call (c_ref03_Book_Slot hx21) rfl (fun _ _ _ => trivial)) ?_
  refine WL_v rfl (VS_assign rfl) ?_
  refine WL_nil ?_
  refine WQ_then ?_
  refine WP_seq ?_
  refine WP_seq ?_
  refine WP_region ?_
  refine WL_v rfl (VS_move rfl) ?_
  refine WL_v rfl (VS_lss rfl rfl) ?_
  refine WL_nil ?_
  refine WQ_then ?_
  refine WP_if rfl (fun hc => ?_) (fun hc => ?_)
  ·
    replace h := cn_t hc h
    refine WP_seq ?_
    refine WP_region ?_
    refine WL_v rfl (VS_loadall rfl (Lay.len _ f0)) ?_
    obtain ⟨c22, hc22, f23⟩ : ∃ cc, splice zc_ref05_Table 0 cs0 = cc ∧ (L_ref05_Table).rep K cc a0 := ⟨_, rfl, (Pth.id (L := L_ref05_Table)).set (Lay.mono _ ent (show (L_ref05_Table).rep (Hs []) zc_ref05_Table Z_ref05_Table from zr_ref05_Table)) (Lay.mono _ ent f0)⟩
    refine WL_x0 (RX_stN cs0 (Pth.id (L := L_ref05_Table)) (v := a0) (r := (show (L_ref05_Table).rep (Hs []) zc_ref05_Table Z_ref05_Table from zr_ref05_Table)) (rv := ((Lay.mono _ ent f0) : (L_ref05_Table).rep K cs0 a0)) rfl rfl rfl rfl hc22) (fun _ _ => ?_)
    refine WL_v rfl (VS_assign rfl) ?_
    refine WL_nil ?_
    refine WQ_then ?_
    refine WP_ret ?_
    refine WQ_then_ret ?_
    replace h := Option.some.inj h
    subst h
    refine WQ_bundle (R := []) (H' := [.cells b4 105 c22]) (ks := [0]) rfl (by decide) ?_
    have p24 : (L_ref05_Table).rep (fun w => K w ∧ (Hs [.ext (blks []) (Hs [])]) w) c22 a0 := Lay.mono _ ent f23
    exact WQ_ret (.tuple #[.agg c22.toArray, .int .i64 4], blks [], Hs []) rfl (.agg rfl inferInstance inferInstance (Lay.len _ f23) (.tmp rfl .nil)) ⟨_, rfl, p24⟩ rfl (ks := [0]) rfl (by decide)
  ·
    replace h := cn_f hc h
    refine WP_skip ?_
    refine WQ_then ?_
    refine WP_seq ?_
    obtain ⟨x25, hx25, h⟩ := bd_e h
    obtain ⟨x26, hx26, h⟩ := lt_e h
    refine WP_region ?_
    refine WL_v rfl (VS_field0 rfl) ?_
    refine WL_v rfl (VS_loadpart rfl (FlatL.iff.1 (P_ref05_Table_B.get f0)) (enc_len _ _)) ?_
    refine WL_v rfl (VS_move rfl) ?_
    refine WL_v rfl (VS_call (c_ref03_Book_Void hx25) rfl (fun _ _ _ => trivial)) ?_
    refine WL_v rfl (VS_move rfl) ?_
    refine WL_v rfl (VS_extract rfl rfl) ?_
    refine WL_v rfl (VS_extract rfl rfl) ?_
    refine WL_v rfl (VS_field0 rfl) ?_
    obtain ⟨c27, hc27, f28⟩ : ∃ cc, splice cs0 0 (L_ref03_Book.enc x25.1) = cc ∧ (L_ref05_Table).rep K cc x26 := ⟨_, rfl, by rw [hx26]; exact P_ref05_Table_B.set (Lay.mono _ ent f0) (FlatL.iff.2 rfl)⟩
    refine WL_x0 (RX_stN (L_ref03_Book.enc x25.1) P_ref05_Table_B (v := x25.1) (r := f0) (rv := ((FlatL.iff.2 rfl) : (L_ref03_Book).rep K (L_ref03_Book.enc x25.1) x25.1)) rfl rfl rfl rfl hc27) (fun _ _ => ?_)
    refine WL_nil ?_
    refine WQ_then ?_
    refine WP_seq ?_
    obtain ⟨x29, hx29, h⟩ := lt_e h
    obtain ⟨hg32, h⟩ := gu_e h
    obtain ⟨x33, hx33, h⟩ := lt_e h
    refine WP_region ?_
    refine WL_v rfl (VS_move rfl) ?_
    obtain ⟨c30, hc30, f31⟩ : ∃ cc, (((LI .i64).enc 0) ++ (((LI .i64).enc 0) ++ (zc_ref04_Extent ++ ((LA (LI .i64) 8).enc (fun _ => 0))))) = cc ∧ (L_ref05_Region).rep (Hs []) cc x29 := ⟨_, rfl, by rw [hx29]; exact ⟨_, _, rfl, (FlatL.iff.2 rfl), ⟨_, _, rfl, (FlatL.iff.2 rfl), ⟨_, _, rfl, zr_ref04_Extent, (FlatL.iff.2 rfl)⟩⟩⟩⟩
    refine WL_v rfl (VS_build (cs := c30) rfl (by rw [← hc30]; rfl)) ?_
    refine WL_v rfl (VS_field0 rfl) ?_
    refine WL_v rfl (VS_index (m := (Int.toNat x21)) rfl rfl (inb_e hg32).1 (inb_e hg32).2) ?_
    obtain ⟨c34, hc34, f35⟩ : ∃ cc, splice c27 (64 + (Int.toNat x21) * 12) c30 = cc ∧ (L_ref05_Table).rep K cc x33 := ⟨_, rfl, by rw [hx33]; exact (P_ref05_Table_R.comp (Pth.idx (L := L_ref05_Region) (m := 32) (k := 12) ((Int.toNat x21)) (inb_e hg32).2 rfl)).set (Lay.mono _ ent f28) (Lay.mono _ ent f31)⟩
    refine WL_x0 (RX_stN c30 (P_ref05_Table_R.comp (Pth.idx (L := L_ref05_Region) (m := 32) (k := 12) ((Int.toNat x21)) (inb_e hg32).2 rfl)) (v := x29) (r := f28) (rv := ((Lay.mono _ ent f31) : (L_ref05_Region).rep K c30 x29)) rfl rfl rfl rfl hc34) (fun _ _ => ?_)
    refine WL_nil ?_
    refine WQ_then ?_
    refine WP_seq ?_
    refine WP_seq ?_
    refine WP_region ?_
    refine WL_v rfl (VS_assign rfl) ?_
    refine WL_nil ?_
    refine WQ_then ?_
    refine WP_block ?_
    obtain ⟨lb49, hlb49, h⟩ := lp2_i h
    refine WP_ext0 ?_
    refine WP_loops (α := Nat × Int × ref05_Table × (List Value) × (List Nat) × (World → Prop)) [1, 2, 4] (.cons rfl (.cons rfl (.cons rfl (.nil)))) (fun (m50, x45, x46, c47, bs43, J44) => [(7, .int .i64 x45)]) (fun (m50, x45, x46, c47, bs43, J44) => [.ext bs43 J44, .cells b4 105 zc_ref05_Table, .cells b2 105 c47]) (fun (m50, x45, x46, c47, bs43, J44) => (L_ref05_Table).rep (fun w => K w ∧ Hs [.ext bs43 J44] w) c47 x46 ∧ loop2 lb49 m50 x45 x46 = some r) (fun (m50, x45, x46, c47, bs43, J44) => m50) (n, 0, x33, c34, [], (Hs [])) ⟨(Lay.mono _ ent f35), h⟩ (Sub_cons rfl (Sub_nil)) (ks := [0, 1, 2]) rfl (by decide) ?_
    rintro ⟨m50, x45, x46, c47, bs43, J44⟩ ⟨f48, h⟩
    replace h : loop2 lb49 m50 x45 x46 = some r := h
    replace h := lp2_s hlb49 h
    obtain ⟨m50, rfl, h⟩ := h
    refine WP_seq ?_
    refine WP_seq ?_
    refine WP_region ?_
    refine WL_v rfl (VS_move rfl) ?_
    refine WL_v rfl (VS_lss rfl rfl) ?_
    refine WL_nil ?_
    refine WQ_then ?_
    refine WP_if rfl (fun hc => ?_) (fun hc => ?_)
    ·
      replace h := cn_t hc h
      refine WP_skip ?_
      refine WQ_then ?_
      refine WP_seq ?_
      refine WP_block ?_
      refine WP_seq ?_
      obtain ⟨hg52, h⟩ := gu_e h
      refine WP_region ?_
      refine WL_v rfl (VS_move rfl) ?_
      refine WL_v rfl (VS_field0 rfl) ?_
      refine WL_v rfl (VS_index (m := (Int.toNat x45)) rfl rfl (inb_e hg52).1 (inb_e hg52).2) ?_
      refine WL_v rfl (VS_field rfl) ?_
      refine WL_v rfl (VS_load rfl (((P_ref05_Table_R.comp (Pth.idx (L := L_ref05_Region) (m := 32) (k := 12) ((Int.toNat x45)) (inb_e hg52).2 rfl)).comp P_ref05_Region_Up).int f48)) ?_
      refine WL_v rfl (VS_move rfl) ?_
      refine WL_v rfl (VS_eql rfl rfl) ?_
      refine WL_nil ?_
      refine WQ_then ?_
      refine WP_if rfl (fun hc => ?_) (fun hc => ?_)
      ·
        replace h := cn_t hc h
        obtain ⟨hg53, h⟩ := gu_e h
        obtain ⟨x54, hx54, h⟩ := lt_e h
        refine WP_region ?_
        refine WL_v rfl (VS_move rfl) ?_
        refine WL_v rfl (VS_field0 rfl) ?_
        refine WL_v rfl (VS_index (m := (Int.toNat x45)) rfl rfl (inb_e hg53).1 (inb_e hg53).2) ?_
        refine WL_v rfl (VS_field rfl) ?_
        obtain ⟨c55, hc55, f56⟩ : ∃ cc, splice c47 ((64 + (Int.toNat x45) * 12) + 0) ((LI .i64).enc 0) = cc ∧ (L_ref05_Table).rep (fun w => K w ∧ Hs [.ext bs43 J44] w) cc x54 := ⟨_, rfl, by rw [hx54]; exact ((P_ref05_Table_R.comp (Pth.idx (L := L_ref05_Region) (m := 32) (k := 12) ((Int.toNat x45)) (inb_e hg53).2 rfl)).comp P_ref05_Region_Up).set (Lay.mono _ ent f48) (FlatL.iff.2 rfl)⟩
        refine WL_x0 (RX_stN ((LI .i64).enc 0) ((P_ref05_Table_R.comp (Pth.idx (L := L_ref05_Region) (m := 32) (k := 12) ((Int.toNat x45)) (inb_e hg53).2 rfl)).comp P_ref05_Region_Up) (v := 0) (r := f48) (rv := ((FlatL.iff.2 rfl) : ((LI .i64)).rep (fun w => K w ∧ Hs [.ext bs43 J44] w) ((LI .i64).enc 0) 0)) rfl rfl rfl rfl hc55) (fun _ _ => ?_)
        refine WL_nil ?_
        refine WQ_block ?_
        refine WQ_then ?_
        refine WP_region ?_
        refine WL_v rfl (VS_move rfl) ?_
        refine WL_v rfl (VS_add rfl rfl rfl) ?_
        refine WL_v rfl (VS_assign rfl) ?_
        refine WL_nil ?_
        refine WQ_bundle (R := [.ext bs43 J44]) (H' := [.cells b4 105 zc_ref05_Table, .cells b2 105 c55]) (ks := [0, 1, 2]) rfl (by decide) ?_
        exact WQ_loops (m50, wr .i64 (x45 + 1), x54, c55, (blks [.ext bs43 J44]), (Hs [.ext bs43 J44])) (Nat.lt_succ_self _) ⟨(Lay.mono _ ent f56), h⟩ (Sub_cons rfl (Sub_nil)) (.cons rfl (.cons rfl (.cons rfl (.nil)))) (ks := [0, 1, 2]) rfl (by decide)
      ·
        replace h := cn_f hc h
        refine WP_skip ?_
        refine WQ_block ?_
        refine WQ_then ?_
        refine WP_region ?_
        refine WL_v rfl (VS_move rfl) ?_
        refine WL_v rfl (VS_add rfl rfl rfl) ?_
        refine WL_v rfl (VS_assign rfl) ?_
        refine WL_nil ?_
        refine WQ_bundle (R := [.ext bs43 J44]) (H' := [.cells b4 105 zc_ref05_Table, .cells b2 105 c47]) (ks := [0, 1, 2]) rfl (by decide) ?_
        exact WQ_loops (m50, wr .i64 (x45 + 1), x46, c47, (blks [.ext bs43 J44]), (Hs [.ext bs43 J44])) (Nat.lt_succ_self _) ⟨(Lay.mono _ ent f48), h⟩ (Sub_cons rfl (Sub_nil)) (.cons rfl (.cons rfl (.cons rfl (.nil)))) (ks := [0, 1, 2]) rfl (by decide)
    ·
      replace h := cn_f hc h
      refine WP_exit ?_
      refine WQ_then_exit ?_
      refine WQ_then_exit ?_
      refine WQ_block_exit ?_
      refine WQ_then ?_
      refine WP_seq ?_
      refine WP_region ?_
      refine WL_v rfl (VS_loadall rfl (Lay.len _ f48)) ?_
      obtain ⟨c57, hc57, f58⟩ : ∃ cc, splice zc_ref05_Table 0 c47 = cc ∧ (L_ref05_Table).rep (fun w => K w ∧ Hs [.ext bs43 J44] w) cc x46 := ⟨_, rfl, (Pth.id (L := L_ref05_Table)).set (Lay.mono _ ent (show (L_ref05_Table).rep (Hs []) zc_ref05_Table Z_ref05_Table from zr_ref05_Table)) (Lay.mono _ ent f48)⟩
      refine WL_x0 (RX_stN c47 (Pth.id (L := L_ref05_Table)) (v := x46) (r := (show (L_ref05_Table).rep (Hs []) zc_ref05_Table Z_ref05_Table from zr_ref05_Table)) (rv := ((Lay.mono _ ent f48) : (L_ref05_Table).rep (fun w => K w ∧ Hs [.ext bs43 J44] w) c47 x46)) rfl rfl rfl rfl hc57) (fun _ _ => ?_)
      refine WL_v rfl (VS_assign rfl) ?_
      refine WL_nil ?_
      refine WQ_then ?_
      refine WP_ret ?_
      replace h := Option.some.inj h
      subst h
      refine WQ_bundle (R := [.ext bs43 J44]) (H' := [.cells b4 105 c57]) (ks := [0, 1]) rfl (by decide) ?_
      have p59 : (L_ref05_Table).rep (fun w => K w ∧ (Hs [.ext (blks [.ext bs43 J44]) (Hs [.ext bs43 J44])]) w) c57 x46 := Lay.mono _ ent f58
      exact WQ_ret (.tuple #[.agg c57.toArray, .int .i64 0], blks [.ext bs43 J44], Hs [.ext bs43 J44]) rfl (.agg rfl inferInstance inferInstance (Lay.len _ f58) (.tmp rfl .nil)) ⟨_, rfl, p59⟩ rfl (ks := [0]) rfl (by decide)
def ref05_Table_New (n : Nat) (a0 : ref05_Table) (a1 : Int) (a2 : Int) : Option (ref05_Table × Int × Int) :=
  cl ((a1 != 0) == true) (ref05_Table_Good n a0 a1) default fun x21 =>
  cn (((a1 != 0) && (!x21))) (
  some (a0, 0, 4)) (
  cn ((decide (a2 < 0) || decide (64 < a2))) (
  some (a0, 0, 2)) (
  bd (ref03_Book_Issue n a0.B) fun x28 =>
  cn ((x28.2 == 0)) (
  some (a0, 0, 7)) (
  lt ({ a0 with B := x28.1 } : ref05_Table) fun x32 =>
  bd (ref03_Book_Slot n x28.1 x28.2) fun x35 =>
  lt ({ Up := a1, Quota := a2, E := Z_ref04_Extent, Cells := (fun _ => 0) } : ref05_Region) fun x36 =>
  gu (inb x35 32) <|
  lt ({ x32 with R := (upd x32.R (Int.toNat x35) x36) } : ref05_Table) fun x40 =>
  some (x40, x28.2, 0))))
theorem c_ref05_Table_New {n : Nat} {a0 : ref05_Table} {a1 : Int} {a2 : Int} {r : ref05_Table × Int × Int} {K : World → Prop} [Stable K] {cs0 : List Value} (f0 : (L_ref05_Table).rep K cs0 a0) (h : ref05_Table_New n a0 a1 a2 = some r) : FnB Try.prog 113 [.agg cs0.toArray, .int .i64 a1, .int .i64 a2] K (fun J v => ∃ u0, v = (.tuple #[.agg u0.toArray, .int .i64 r.2.1, .int .i64 r.2.2]) ∧ (L_ref05_Table).rep (fun w => K w ∧ J w) u0 (r.1)) := by
  unfold ref05_Table_New at h
  refine fn_of Try.func113 (by kernel_rfl) rfl Try.ntmps113 rfl (fun cx hbs hpre hro => ?_)
  haveI := knf_pre hbs hpre
  refine WP_seq ?_
  refine WP_region ?_
  refine WL_x rfl (RX_boxa rfl) (fun b3 _ => ?_)
  refine WL_x rfl (RX_alloc (hz := (⟨by kernel_rfl⟩ : TZero Try.prog 105 zc_ref05_Table))) (fun b6 _ => ?_)
  refine WL_v rfl (VS_assign rfl) ?_
  refine WL_v rfl (VS_assign rfl) ?_
  refine WL_nil ?_
  refine WQ_then ?_
  refine WP_seq ?_
  refine WP_seq ?_
  obtain ⟨x21, hx21, _, h⟩ := cl_e h
  refine WP_region ?_
  refine WL_v rfl (VS_move rfl) ?_
  refine WL_v rfl (VS_neq rfl rfl) ?_
  refine WL_v rfl (VS_move rfl) ?_
  refine WL_g (Gd_b rfl rfl) rfl (fun hb => VS_loadall rfl (Lay.len _ f0)) ?_
  refine WL_g (Gd_b rfl rfl) rfl (fun hb => VS_move rfl) ?_
  refine WL_g (Gd_b rfl rfl) rfl (fun hb => VS_call (c_ref05_Table_Good (K := K) (Lay.mono _ ent f0) (hx21 hb)) (evs_cons (gev rfl hb) (evs_cons (gev rfl hb) rfl)) kn) ?_
  refine WL_g (Gd_b rfl rfl) rfl (fun hb => VS_not (gev rfl hb)) ?_
  refine WL_v rfl (VS_and rfl rfl) ?_
  refine WL_nil ?_
  refine WQ_then ?_
  refine WP_if rfl (fun hc => ?_) (fun hc => ?_)
  ·
    replace h := cn_t hc h
    refine WP_seq ?_
    refine WP_region ?_
    refine WL_v rfl (VS_loadall rfl (Lay.len _ f0)) ?_
    obtain ⟨c22, hc22, f23⟩ : ∃ cc, splice zc_ref05_Table 0 cs0 = cc ∧ (L_ref05_Table).rep K cc a0 := ⟨_, rfl, (Pth.id (L := L_ref05_Table)).set (Lay.mono _ ent (show (L_ref05_Table).rep (Hs []) zc_ref05_Table Z_ref05_Table from zr_ref05_Table)) (Lay.mono _ ent f0)⟩
    refine WL_x0 (RX_stN cs0 (Pth.id (L := L_ref05_Table)) (v := a0) (r := (show (L_ref05_Table).rep (Hs []) zc_ref05_Table Z_ref05_Table from zr_ref05_Table)) (rv := ((Lay.mono _ ent f0) : (L_ref05_Table).rep K cs0 a0)) rfl rfl rfl rfl hc22) (fun _ _ => ?_)
    refine WL_v rfl (VS_assign rfl) ?_
    refine WL_v rfl (VS_assign rfl) ?_
    refine WL_nil ?_
    refine WQ_then ?_
    refine WP_ret ?_
    refine WQ_then_ret ?_
    replace h := Option.some.inj h
    subst h
    refine WQ_bundle (R := []) (H' := [.cells b6 105 c22]) (ks := [0]) rfl (by decide) ?_
    have p24 : (L_ref05_Table).rep (fun w => K w ∧ (Hs [.ext (blks []) (Hs [])]) w) c22 a0 := Lay.mono _ ent f23
    exact WQ_ret (.tuple #[.agg c22.toArray, .int .i64 0, .int .i64 4], blks [], Hs []) rfl (.agg rfl inferInstance inferInstance (Lay.len _ f23) (.tmp rfl (.tmp rfl .nil))) ⟨_, rfl, p24⟩ rfl (ks := [0]) rfl (by decide)
  ·
    replace h := cn_f hc h
    refine WP_skip ?_
    refine WQ_then ?_
    refine WP_seq ?_
    refine WP_seq ?_
    refine WP_region ?_
    refine WL_v rfl (VS_move rfl) ?_
    refine WL_v rfl (VS_lss rfl rfl) ?_
    refine WL_v rfl (VS_move rfl) ?_
    refine WL_g (Gd_b rfl rfl) rfl (fun hb => VS_move rfl) ?_
    refine WL_g (Gd_b rfl rfl) rfl (fun hb => VS_gtr (gev rfl hb) rfl) ?_
    refine WL_v rfl (VS_or rfl rfl) ?_
    refine WL_nil ?_
    refine WQ_then ?_
    refine WP_if rfl (fun hc => ?_) (fun hc => ?_)
    ·
      replace h := cn_t hc h
      refine WP_seq ?_
      refine WP_region ?_
      refine WL_v rfl (VS_loadall rfl (Lay.len _ f0)) ?_
      obtain ⟨c25, hc25, f26⟩ : ∃ cc, splice zc_ref05_Table 0 cs0 = cc ∧ (L_ref05_Table).rep K cc a0 := ⟨_, rfl, (Pth.id (L := L_ref05_Table)).set (Lay.mono _ ent (show (L_ref05_Table).rep (Hs []) zc_ref05_Table Z_ref05_Table from zr_ref05_Table)) (Lay.mono _ ent f0)⟩
      refine WL_x0 (RX_stN cs0 (Pth.id (L := L_ref05_Table)) (v := a0) (r := (show (L_ref05_Table).rep (Hs []) zc_ref05_Table Z_ref05_Table from zr_ref05_Table)) (rv := ((Lay.mono _ ent f0) : (L_ref05_Table).rep K cs0 a0)) rfl rfl rfl rfl hc25) (fun _ _ => ?_)
      refine WL_v rfl (VS_assign rfl) ?_
      refine WL_v rfl (VS_assign rfl) ?_
      refine WL_nil ?_
      refine WQ_then ?_
      refine WP_ret ?_
      refine WQ_then_ret ?_
      replace h := Option.some.inj h
      subst h
      refine WQ_bundle (R := []) (H' := [.cells b6 105 c25]) (ks := [0]) rfl (by decide) ?_
      have p27 : (L_ref05_Table).rep (fun w => K w ∧ (Hs [.ext (blks []) (Hs [])]) w) c25 a0 := Lay.mono _ ent f26
      exact WQ_ret (.tuple #[.agg c25.toArray, .int .i64 0, .int .i64 2], blks [], Hs []) rfl (.agg rfl inferInstance inferInstance (Lay.len _ f26) (.tmp rfl (.tmp rfl .nil))) ⟨_, rfl, p27⟩ rfl (ks := [0]) rfl (by decide)
    ·
      replace h := cn_f hc h
      refine WP_skip ?_
      refine WQ_then ?_
      refine WP_seq ?_
      obtain ⟨x28, hx28, h⟩ := bd_e h
      refine WP_region ?_
      refine WL_v rfl (VS_field0 rfl) ?_
      refine WL_v rfl (VS_loadpart rfl (FlatL.iff.1 (P_ref05_Table_B.get f0)) (enc_len _ _)) ?_
      refine WL_v rfl (VS_call (c_ref03_Book_Issue hx28) rfl (fun _ _ _ => trivial)) ?_
      refine WL_v rfl (VS_move rfl) ?_
      refine WL_v rfl (VS_extract rfl rfl) ?_
      refine WL_v rfl (VS_extract rfl rfl) ?_
      refine WL_x rfl (RX_allocL (L := L_ref03_Book) (z := Z_ref03_Book) ⟨by kernel_rfl⟩) (fun b9 _ => ?_)
      refine WL_x0 (RX_st (M := L_ref03_Book) (Pth.id (L := L_ref03_Book)) x28.1 x28.1 rfl rfl rfl rfl rfl) (fun _ _ => ?_)
      refine WL_v rfl (VS_assign rfl) ?_
      refine WL_nil ?_
      refine WQ_then ?_
      refine WP_seq ?_
      refine WP_seq ?_
      refine WP_region ?_
      refine WL_v rfl (VS_move rfl) ?_
      refine WL_v rfl (VS_eql rfl rfl) ?_
      refine WL_nil ?_
      refine WQ_then ?_
      refine WP_if rfl (fun hc => ?_) (fun hc => ?_)
      ·
        replace h := cn_t hc h
        refine WP_seq ?_
        refine WP_region ?_
        refine WL_v rfl (VS_loadall rfl (Lay.len _ f0)) ?_
        obtain ⟨c29, hc29, f30⟩ : ∃ cc, splice zc_ref05_Table 0 cs0 = cc ∧ (L_ref05_Table).rep K cc a0 := ⟨_, rfl, (Pth.id (L := L_ref05_Table)).set (Lay.mono _ ent (show (L_ref05_Table).rep (Hs []) zc_ref05_Table Z_ref05_Table from zr_ref05_Table)) (Lay.mono _ ent f0)⟩
        refine WL_x0 (RX_stN cs0 (Pth.id (L := L_ref05_Table)) (v := a0) (r := (show (L_ref05_Table).rep (Hs []) zc_ref05_Table Z_ref05_Table from zr_ref05_Table)) (rv := ((Lay.mono _ ent f0) : (L_ref05_Table).rep K cs0 a0)) rfl rfl rfl rfl hc29) (fun _ _ => ?_)
        refine WL_v rfl (VS_assign rfl) ?_
        refine WL_v rfl (VS_assign rfl) ?_
        refine WL_nil ?_
        refine WQ_then ?_
        refine WP_ret ?_
        refine WQ_then_ret ?_
        replace h := Option.some.inj h
        subst h
        refine WQ_bundle (R := []) (H' := [.cells b6 105 c29]) (ks := [1]) rfl (by decide) ?_
        have p31 : (L_ref05_Table).rep (fun w => K w ∧ (Hs [.ext (blks []) (Hs [])]) w) c29 a0 := Lay.mono _ ent f30
        exact WQ_ret (.tuple #[.agg c29.toArray, .int .i64 0, .int .i64 7], blks [], Hs []) rfl (.agg rfl inferInstance inferInstance (Lay.len _ f30) (.tmp rfl (.tmp rfl .nil))) ⟨_, rfl, p31⟩ rfl (ks := [0]) rfl (by decide)
      ·
        replace h := cn_f hc h
        refine WP_skip ?_
        refine WQ_then ?_
        refine WP_seq ?_
        obtain ⟨x32, hx32, h⟩ := lt_e h
        refine WP_region ?_
        refine WL_v rfl (VS_lda (M := L_ref03_Book) (Pth.id (L := L_ref03_Book)) rfl rfl) ?_
        refine WL_v rfl (VS_field0 rfl) ?_
        obtain ⟨c33, hc33, f34⟩ : ∃ cc, splice cs0 0 (L_ref03_Book.enc x28.1) = cc ∧ (L_ref05_Table).rep K cc x32 := ⟨_, rfl, by rw [hx32]; exact P_ref05_Table_B.set (Lay.mono _ ent f0) (FlatL.iff.2 rfl)⟩
        refine WL_x0 (RX_stN (L_ref03_Book.enc x28.1) P_ref05_Table_B (v := x28.1) (r := f0) (rv := ((FlatL.iff.2 rfl) : (L_ref03_Book).rep K (L_ref03_Book.enc x28.1) x28.1)) rfl rfl rfl rfl hc33) (fun _ _ => ?_)
        refine WL_nil ?_
        refine WQ_then ?_
        refine WP_seq ?_
        obtain ⟨x35, hx35, h⟩ := bd_e h
        obtain ⟨x36, hx36, h⟩ := lt_e h
        obtain ⟨hg39, h⟩ := gu_e h
        obtain ⟨x40, hx40, h⟩ := lt_e h
        refine WP_region ?_
        refine WL_v rfl (VS_lda (M := L_ref03_Book) (Pth.id (L := L_ref03_Book)) rfl rfl) ?_
        refine WL_v rfl (VS_move rfl) ?_
        refine WL_v rfl (VS_call (c_ref03_Book_Slot hx35) rfl (fun _ _ _ => trivial)) ?_
        refine WL_v rfl (VS_move rfl) ?_
        refine WL_v rfl (VS_move rfl) ?_
        obtain ⟨c37, hc37, f38⟩ : ∃ cc, (((LI .i64).enc a1) ++ (((LI .i64).enc a2) ++ (zc_ref04_Extent ++ ((LA (LI .i64) 8).enc (fun _ => 0))))) = cc ∧ (L_ref05_Region).rep (Hs []) cc x36 := ⟨_, rfl, by rw [hx36]; exact ⟨_, _, rfl, (FlatL.iff.2 rfl), ⟨_, _, rfl, (FlatL.iff.2 rfl), ⟨_, _, rfl, zr_ref04_Extent, (FlatL.iff.2 rfl)⟩⟩⟩⟩
        refine WL_v rfl (VS_build (cs := c37) rfl (by rw [← hc37]; rfl)) ?_
        refine WL_v rfl (VS_field0 rfl) ?_
        refine WL_v rfl (VS_index (m := (Int.toNat x35)) rfl rfl (inb_e hg39).1 (inb_e hg39).2) ?_
        obtain ⟨c41, hc41, f42⟩ : ∃ cc, splice c33 (64 + (Int.toNat x35) * 12) c37 = cc ∧ (L_ref05_Table).rep K cc x40 := ⟨_, rfl, by rw [hx40]; exact (P_ref05_Table_R.comp (Pth.idx (L := L_ref05_Region) (m := 32) (k := 12) ((Int.toNat x35)) (inb_e hg39).2 rfl)).set (Lay.mono _ ent f34) (Lay.mono _ ent f38)⟩
        refine WL_x0 (RX_stN c37 (P_ref05_Table_R.comp (Pth.idx (L := L_ref05_Region) (m := 32) (k := 12) ((Int.toNat x35)) (inb_e hg39).2 rfl)) (v := x36) (r := f34) (rv := ((Lay.mono _ ent f38) : (L_ref05_Region).rep K c37 x36)) rfl rfl rfl rfl hc41) (fun _ _ => ?_)
        refine WL_nil ?_
        refine WQ_then ?_
        refine WP_seq ?_
        refine WP_region ?_
        refine WL_v rfl (VS_loadall rfl (Lay.len _ f42)) ?_
        refine WL_v rfl (VS_move rfl) ?_
        obtain ⟨c43, hc43, f44⟩ : ∃ cc, splice zc_ref05_Table 0 c41 = cc ∧ (L_ref05_Table).rep K cc x40 := ⟨_, rfl, (Pth.id (L := L_ref05_Table)).set (Lay.mono _ ent (show (L_ref05_Table).rep (Hs []) zc_ref05_Table Z_ref05_Table from zr_ref05_Table)) (Lay.mono _ ent f42)⟩
        refine WL_x0 (RX_stN c41 (Pth.id (L := L_ref05_Table)) (v := x40) (r := (show (L_ref05_Table).rep (Hs []) zc_ref05_Table Z_ref05_Table from zr_ref05_Table)) (rv := ((Lay.mono _ ent f42) : (L_ref05_Table).rep K c41 x40)) rfl rfl rfl rfl hc43) (fun _ _ => ?_)
        refine WL_v rfl (VS_assign rfl) ?_
        refine WL_v rfl (VS_assign rfl) ?_
        refine WL_nil ?_
        refine WQ_then ?_
        refine WP_ret ?_
        replace h := Option.some.inj h
        subst h
        refine WQ_bundle (R := []) (H' := [.cells b6 105 c43]) (ks := [1]) rfl (by decide) ?_
        have p45 : (L_ref05_Table).rep (fun w => K w ∧ (Hs [.ext (blks []) (Hs [])]) w) c43 x40 := Lay.mono _ ent f44
        exact WQ_ret (.tuple #[.agg c43.toArray, .int .i64 x28.2, .int .i64 0], blks [], Hs []) rfl (.agg rfl inferInstance inferInstance (Lay.len _ f44) (.tmp rfl (.tmp rfl .nil))) ⟨_, rfl, p45⟩ rfl (ks := [0]) rfl (by decide)
def ref05_Table_Above (n : Nat) (a0 : ref05_Table) (a1 : Int) (a2 : Int) : Option Bool :=
  loop1 (fun k25 (x22 : Int) =>
  cn ((x22 != 0)) (
  bd (ref03_Book_Slot n a0.B x22) fun x26 =>
  gu (inb x26 32) <|
  cn ((((a0.R (Int.toNat x26)).Up) == a1)) (
  some (a1 != 0)) (
  k25 ((a0.R (Int.toNat x26)).Up))) (
  some false)) n a2
theorem c_ref05_Table_Above {n : Nat} {a0 : ref05_Table} {a1 : Int} {a2 : Int} {r : Bool} {K : World → Prop} [Stable K] {cs0 : List Value} (f0 : (L_ref05_Table).rep K cs0 a0) (h : ref05_Table_Above n a0 a1 a2 = some r) : FnW Try.prog 129 [.agg cs0.toArray, .int .i64 a1, .int .i64 a2] K (.bool r) := by
  unfold ref05_Table_Above at h
  refine fn_of Try.func129 (by kernel_rfl) rfl Try.ntmps129 rfl (fun cx hbs hpre hro => ?_)
  haveI := knf_pre hbs hpre
  refine WP_seq ?_
  refine WP_region ?_
  refine WL_x rfl (RX_boxa rfl) (fun b3 _ => ?_)
  refine WL_v rfl (VS_assign rfl) ?_
  refine WL_nil ?_
  refine WQ_then ?_
  refine WP_seq ?_
  refine WP_block ?_
  obtain ⟨lb23, hlb23, h⟩ := lp1_i h
  refine WP_loops (α := Nat × Int) [1, 3] (.cons rfl (.cons rfl (.nil))) (fun (m24, x22) => [(2, .int .i64 x22)]) (fun (m24, x22) => [.cells b3 105 cs0]) (fun (m24, x22) => loop1 lb23 m24 x22 = some r) (fun (m24, x22) => m24) (n, a2) h (Sub_cons rfl (Sub_nil)) (ks := [0]) rfl (by decide) ?_
  rintro ⟨m24, x22⟩ h
  replace h : loop1 lb23 m24 x22 = some r := h
  replace h := lp1_s hlb23 h
  obtain ⟨m24, rfl, h⟩ := h
  refine WP_seq ?_
  refine WP_seq ?_
  refine WP_region ?_
  refine WL_v rfl (VS_move rfl) ?_
  refine WL_v rfl (VS_neq rfl rfl) ?_
  refine WL_nil ?_
  refine WQ_then ?_
  refine WP_if rfl (fun hc => ?_) (fun hc => ?_)
  ·
    replace h := cn_t hc h
    refine WP_skip ?_
    refine WQ_then ?_
    refine WP_block ?_
    refine WP_seq ?_
    obtain ⟨x26, hx26, h⟩ := bd_e h
    obtain ⟨hg27, h⟩ := gu_e h
    refine WP_region ?_
    refine WL_v rfl (VS_field0 rfl) ?_
    refine WL_v rfl (VS_loadpart rfl (FlatL.iff.1 (P_ref05_Table_B.get f0)) (enc_len _ _)) ?_
    refine WL_v rfl (VS_move rfl) ?_
    refine WL_v rfl (VS_call (c_ref03_Book_Slot hx26) rfl (fun _ _ _ => trivial)) ?_
    refine WL_v rfl (VS_field0 rfl) ?_
    refine WL_v rfl (VS_index (m := (Int.toNat x26)) rfl rfl (inb_e hg27).1 (inb_e hg27).2) ?_
    refine WL_v rfl (VS_field rfl) ?_
    refine WL_v rfl (VS_load rfl (((P_ref05_Table_R.comp (Pth.idx (L := L_ref05_Region) (m := 32) (k := 12) ((Int.toNat x26)) (inb_e hg27).2 rfl)).comp P_ref05_Region_Up).int f0)) ?_
    refine WL_v rfl (VS_assign rfl) ?_
    refine WL_nil ?_
    refine WQ_then ?_
    refine WP_seq ?_
    refine WP_region ?_
    refine WL_v rfl (VS_move rfl) ?_
    refine WL_v rfl (VS_move rfl) ?_
    refine WL_v rfl (VS_eql rfl rfl) ?_
    refine WL_nil ?_
    refine WQ_then ?_
    refine WP_if rfl (fun hc => ?_) (fun hc => ?_)
    ·
      replace h := cn_t hc h
      refine WP_seq ?_
      refine WP_region ?_
      refine WL_v rfl (VS_move rfl) ?_
      refine WL_v rfl (VS_neq rfl rfl) ?_
      refine WL_v rfl (VS_assign rfl) ?_
      refine WL_nil ?_
      refine WQ_then ?_
      refine WP_ret ?_
      refine WQ_block_ret ?_
      refine WQ_then_ret ?_
      refine WQ_block_ret ?_
      refine WQ_then_ret ?_
      replace h := Option.some.inj h
      subst h
      exact WQ_ret () rfl (.tmp rfl .nil) trivial rfl (ks := []) rfl (by decide)
    ·
      replace h := cn_f hc h
      refine WP_skip ?_
      refine WQ_block ?_
      exact WQ_loops (m24, (a0.R (Int.toNat x26)).Up) (Nat.lt_succ_self _) h (Sub_cons rfl (Sub_nil)) (.cons rfl (.cons rfl (.nil))) (ks := [0]) rfl (by decide)
  ·
    replace h := cn_f hc h
    refine WP_exit ?_
    refine WQ_then_exit ?_
    refine WQ_then_exit ?_
    refine WQ_block_exit ?_
    refine WQ_then ?_
    refine WP_seq ?_
    refine WP_region ?_
    refine WL_v rfl (VS_assign rfl) ?_
    refine WL_nil ?_
    refine WQ_then ?_
    refine WP_ret ?_
    replace h := Option.some.inj h
    subst h
    exact WQ_ret () rfl (.tmp rfl .nil) trivial rfl (ks := []) rfl (by decide)
def ref05_Table_Raise (n : Nat) (a0 : ref05_Table) (a1 : Int) (a2 : Int) : Option (ref05_Table × Int) :=
  bd (ref05_Table_Good n a0 a1) fun x21 =>
  cl (((!x21) == false) && ((a2 != 0) == true)) (ref05_Table_Good n a0 a2) default fun x22 =>
  cn (((!x21) || ((a2 != 0) && (!x22)))) (
  some (a0, 4)) (
  cl (((a2 != 0) == true) && ((a2 == a1) == false)) (ref05_Table_Above n a0 a1 a2) default fun x26 =>
  cn (((a2 != 0) && ((a2 == a1) || x26))) (
  some (a0, 12)) (
  bd (ref03_Book_Slot n a0.B a1) fun x30 =>
  gu (inb x30 32) <|
  lt ({ a0 with R := (upd a0.R (Int.toNat x30) ({ (a0.R (Int.toNat x30)) with Up := a2 })) } : ref05_Table) fun x32 =>
  some (x32, 0)))
theorem c_ref05_Table_Raise {n : Nat} {a0 : ref05_Table} {a1 : Int} {a2 : Int} {r : ref05_Table × Int} {K : World → Prop} [Stable K] {cs0 : List Value} (f0 : (L_ref05_Table).rep K cs0 a0) (h : ref05_Table_Raise n a0 a1 a2 = some r) : FnB Try.prog 112 [.agg cs0.toArray, .int .i64 a1, .int .i64 a2] K (fun J v => ∃ u0, v = (.tuple #[.agg u0.toArray, .int .i64 r.2]) ∧ (L_ref05_Table).rep (fun w => K w ∧ J w) u0 (r.1)) := by
  unfold ref05_Table_Raise at h
  refine fn_of Try.func112 (by kernel_rfl) rfl Try.ntmps112 rfl (fun cx hbs hpre hro => ?_)
  haveI := knf_pre hbs hpre
  refine WP_seq ?_
  refine WP_region ?_
  refine WL_x rfl (RX_boxa rfl) (fun b3 _ => ?_)
  refine WL_x rfl (RX_alloc (hz := (⟨by kernel_rfl⟩ : TZero Try.prog 105 zc_ref05_Table))) (fun b6 _ => ?_)
  refine WL_v rfl (VS_assign rfl) ?_
  refine WL_nil ?_
  refine WQ_then ?_
  refine WP_seq ?_
  refine WP_seq ?_
  obtain ⟨x21, hx21, h⟩ := bd_e h
  obtain ⟨x22, hx22, _, h⟩ := cl_e h
  refine WP_region ?_
  refine WL_v rfl (VS_loadall rfl (Lay.len _ f0)) ?_
  refine WL_v rfl (VS_move rfl) ?_
  refine WL_v rfl (VS_call (c_ref05_Table_Good (K := K) (Lay.mono _ ent f0) hx21) rfl kn) ?_
  refine WL_v rfl (VS_not rfl) ?_
  refine WL_v rfl (VS_move rfl) ?_
  refine WL_g (Gd_b rfl rfl) rfl (fun hb => VS_move rfl) ?_
  refine WL_g (Gd_b rfl rfl) rfl (fun hb => VS_neq (gev rfl hb) rfl) ?_
  refine WL_g (Gd_b rfl rfl) rfl (fun hb => VS_move (gev rfl hb)) ?_
  refine WL_g (Gd_g rfl rfl) rfl (fun hb => VS_loadall rfl (Lay.len _ f0)) ?_
  refine WL_g (Gd_g rfl rfl) rfl (fun hb => VS_move rfl) ?_
  refine WL_g (Gd_g rfl rfl) rfl (fun hb => VS_call (c_ref05_Table_Good (K := K) (Lay.mono _ ent f0) (hx22 hb)) (evs_cons (gev rfl hb) (evs_cons (gev rfl hb) rfl)) kn) ?_
  refine WL_g (Gd_g rfl rfl) rfl (fun hb => VS_not (gev rfl hb)) ?_
  refine WL_g (Gd_b rfl rfl) rfl (fun hb => VS_and (gev rfl hb) (gev2 rfl hb)) ?_
  refine WL_v rfl (VS_or rfl rfl) ?_
  refine WL_nil ?_
  refine WQ_then ?_
  refine WP_if rfl (fun hc => ?_) (fun hc => ?_)
  ·
    replace h := cn_t hc h
    refine WP_seq ?_
    refine WP_region ?_
    refine WL_v rfl (VS_loadall rfl (Lay.len _ f0)) ?_
    obtain ⟨c23, hc23, f24⟩ : ∃ cc, splice zc_ref05_Table 0 cs0 = cc ∧ (L_ref05_Table).rep K cc a0 := ⟨_, rfl, (Pth.id (L := L_ref05_Table)).set (Lay.mono _ ent (show (L_ref05_Table).rep (Hs []) zc_ref05_Table Z_ref05_Table from zr_ref05_Table)) (Lay.mono _ ent f0)⟩
    refine WL_x0 (RX_stN cs0 (Pth.id (L := L_ref05_Table)) (v := a0) (r := (show (L_ref05_Table).rep (Hs []) zc_ref05_Table Z_ref05_Table from zr_ref05_Table)) (rv := ((Lay.mono _ ent f0) : (L_ref05_Table).rep K cs0 a0)) rfl rfl rfl rfl hc23) (fun _ _ => ?_)
    refine WL_v rfl (VS_assign rfl) ?_
    refine WL_nil ?_
    refine WQ_then ?_
    refine WP_ret ?_
    refine WQ_then_ret ?_
    replace h := Option.some.inj h
    subst h
    refine WQ_bundle (R := []) (H' := [.cells b6 105 c23]) (ks := [0]) rfl (by decide) ?_
    have p25 : (L_ref05_Table).rep (fun w => K w ∧ (Hs [.ext (blks []) (Hs [])]) w) c23 a0 := Lay.mono _ ent f24
    exact WQ_ret (.tuple #[.agg c23.toArray, .int .i64 4], blks [], Hs []) rfl (.agg rfl inferInstance inferInstance (Lay.len _ f24) (.tmp rfl .nil)) ⟨_, rfl, p25⟩ rfl (ks := [0]) rfl (by decide)
  ·
    replace h := cn_f hc h
    refine WP_skip ?_
    refine WQ_then ?_
    refine WP_seq ?_
    refine WP_seq ?_
    obtain ⟨x26, hx26, _, h⟩ := cl_e h
    refine WP_region ?_
    refine WL_v rfl (VS_move rfl) ?_
    refine WL_v rfl (VS_neq rfl rfl) ?_
    refine WL_v rfl (VS_move rfl) ?_
    refine WL_g (Gd_b rfl rfl) rfl (fun hb => VS_move rfl) ?_
    refine WL_g (Gd_b rfl rfl) rfl (fun hb => VS_move rfl) ?_
    refine WL_g (Gd_b rfl rfl) rfl (fun hb => VS_eql (gev rfl hb) (gev rfl hb)) ?_
    refine WL_g (Gd_b rfl rfl) rfl (fun hb => VS_move (gev rfl hb)) ?_
    refine WL_g (Gd_g rfl rfl) rfl (fun hb => VS_loadall rfl (Lay.len _ f0)) ?_
    refine WL_g (Gd_g rfl rfl) rfl (fun hb => VS_move rfl) ?_
    refine WL_g (Gd_g rfl rfl) rfl (fun hb => VS_move rfl) ?_
    refine WL_g (Gd_g rfl rfl) rfl (fun hb => VS_call (c_ref05_Table_Above (K := K) (Lay.mono _ ent f0) (hx26 hb)) (evs_cons (gev rfl hb) (evs_cons (gev rfl hb) (evs_cons (gev rfl hb) rfl))) kn) ?_
    refine WL_g (Gd_b rfl rfl) rfl (fun hb => VS_or (gev rfl hb) (gev2 rfl hb)) ?_
    refine WL_v rfl (VS_and rfl rfl) ?_
    refine WL_nil ?_
    refine WQ_then ?_
    refine WP_if rfl (fun hc => ?_) (fun hc => ?_)
    ·
      replace h := cn_t hc h
      refine WP_seq ?_
      refine WP_region ?_
      refine WL_v rfl (VS_loadall rfl (Lay.len _ f0)) ?_
      obtain ⟨c27, hc27, f28⟩ : ∃ cc, splice zc_ref05_Table 0 cs0 = cc ∧ (L_ref05_Table).rep K cc a0 := ⟨_, rfl, (Pth.id (L := L_ref05_Table)).set (Lay.mono _ ent (show (L_ref05_Table).rep (Hs []) zc_ref05_Table Z_ref05_Table from zr_ref05_Table)) (Lay.mono _ ent f0)⟩
      refine WL_x0 (RX_stN cs0 (Pth.id (L := L_ref05_Table)) (v := a0) (r := (show (L_ref05_Table).rep (Hs []) zc_ref05_Table Z_ref05_Table from zr_ref05_Table)) (rv := ((Lay.mono _ ent f0) : (L_ref05_Table).rep K cs0 a0)) rfl rfl rfl rfl hc27) (fun _ _ => ?_)
      refine WL_v rfl (VS_assign rfl) ?_
      refine WL_nil ?_
      refine WQ_then ?_
      refine WP_ret ?_
      refine WQ_then_ret ?_
      replace h := Option.some.inj h
      subst h
      refine WQ_bundle (R := []) (H' := [.cells b6 105 c27]) (ks := [0]) rfl (by decide) ?_
      have p29 : (L_ref05_Table).rep (fun w => K w ∧ (Hs [.ext (blks []) (Hs [])]) w) c27 a0 := Lay.mono _ ent f28
      exact WQ_ret (.tuple #[.agg c27.toArray, .int .i64 12], blks [], Hs []) rfl (.agg rfl inferInstance inferInstance (Lay.len _ f28) (.tmp rfl .nil)) ⟨_, rfl, p29⟩ rfl (ks := [0]) rfl (by decide)
    ·
      replace h := cn_f hc h
      refine WP_skip ?_
      refine WQ_then ?_
      refine WP_seq ?_
      obtain ⟨x30, hx30, h⟩ := bd_e h
      obtain ⟨hg31, h⟩ := gu_e h
      obtain ⟨x32, hx32, h⟩ := lt_e h
      refine WP_region ?_
      refine WL_v rfl (VS_field0 rfl) ?_
      refine WL_v rfl (VS_loadpart rfl (FlatL.iff.1 (P_ref05_Table_B.get f0)) (enc_len _ _)) ?_
      refine WL_v rfl (VS_move rfl) ?_
      refine WL_v rfl (VS_call (c_ref03_Book_Slot hx30) rfl (fun _ _ _ => trivial)) ?_
      refine WL_v rfl (VS_move rfl) ?_
      refine WL_v rfl (VS_field0 rfl) ?_
      refine WL_v rfl (VS_index (m := (Int.toNat x30)) rfl rfl (inb_e hg31).1 (inb_e hg31).2) ?_
      refine WL_v rfl (VS_field rfl) ?_
      obtain ⟨c33, hc33, f34⟩ : ∃ cc, splice cs0 ((64 + (Int.toNat x30) * 12) + 0) ((LI .i64).enc a2) = cc ∧ (L_ref05_Table).rep K cc x32 := ⟨_, rfl, by rw [hx32]; exact ((P_ref05_Table_R.comp (Pth.idx (L := L_ref05_Region) (m := 32) (k := 12) ((Int.toNat x30)) (inb_e hg31).2 rfl)).comp P_ref05_Region_Up).set (Lay.mono _ ent f0) (FlatL.iff.2 rfl)⟩
      refine WL_x0 (RX_stN ((LI .i64).enc a2) ((P_ref05_Table_R.comp (Pth.idx (L := L_ref05_Region) (m := 32) (k := 12) ((Int.toNat x30)) (inb_e hg31).2 rfl)).comp P_ref05_Region_Up) (v := a2) (r := f0) (rv := ((FlatL.iff.2 rfl) : ((LI .i64)).rep K ((LI .i64).enc a2) a2)) rfl rfl rfl rfl hc33) (fun _ _ => ?_)
      refine WL_nil ?_
      refine WQ_then ?_
      refine WP_seq ?_
      refine WP_region ?_
      refine WL_v rfl (VS_loadall rfl (Lay.len _ f34)) ?_
      obtain ⟨c35, hc35, f36⟩ : ∃ cc, splice zc_ref05_Table 0 c33 = cc ∧ (L_ref05_Table).rep K cc x32 := ⟨_, rfl, (Pth.id (L := L_ref05_Table)).set (Lay.mono _ ent (show (L_ref05_Table).rep (Hs []) zc_ref05_Table Z_ref05_Table from zr_ref05_Table)) (Lay.mono _ ent f34)⟩
      refine WL_x0 (RX_stN c33 (Pth.id (L := L_ref05_Table)) (v := x32) (r := (show (L_ref05_Table).rep (Hs []) zc_ref05_Table Z_ref05_Table from zr_ref05_Table)) (rv := ((Lay.mono _ ent f34) : (L_ref05_Table).rep K c33 x32)) rfl rfl rfl rfl hc35) (fun _ _ => ?_)
      refine WL_v rfl (VS_assign rfl) ?_
      refine WL_nil ?_
      refine WQ_then ?_
      refine WP_ret ?_
      replace h := Option.some.inj h
      subst h
      refine WQ_bundle (R := []) (H' := [.cells b6 105 c35]) (ks := [0]) rfl (by decide) ?_
      have p37 : (L_ref05_Table).rep (fun w => K w ∧ (Hs [.ext (blks []) (Hs [])]) w) c35 x32 := Lay.mono _ ent f36
      exact WQ_ret (.tuple #[.agg c35.toArray, .int .i64 0], blks [], Hs []) rfl (.agg rfl inferInstance inferInstance (Lay.len _ f36) (.tmp rfl .nil)) ⟨_, rfl, p37⟩ rfl (ks := [0]) rfl (by decide)
def ref05_Table_Set (n : Nat) (a0 : ref05_Table) (a1 : Int) (a2 : ref05_Region) : Option (ref05_Table × Int) :=
  bd (ref03_Book_Slot n a0.B a1) fun x21 =>
  cn (decide (x21 < 0)) (
  some (a0, 4)) (
  cl ((decide (a2.Quota < 0) || decide (64 < a2.Quota)) == false) (ref04_Extent_May n a2.E) default fun x27 =>
  cn (((decide (a2.Quota < 0) || decide (64 < a2.Quota)) || (!x27))) (
  some (a0, 2)) (
  gu (inb x21 32) <|
  lt ({ a2 with Up := (a0.R (Int.toNat x21)).Up } : ref05_Region) fun x32 =>
  gu (inb x21 32) <|
  lt ({ a0 with R := (upd a0.R (Int.toNat x21) x32) } : ref05_Table) fun x36 =>
  some (x36, 0)))
theorem c_ref05_Table_Set {n : Nat} {a0 : ref05_Table} {a1 : Int} {a2 : ref05_Region} {r : ref05_Table × Int} {K : World → Prop} [Stable K] {cs0 : List Value} (f0 : (L_ref05_Table).rep K cs0 a0) {cs2 : List Value} (f2 : (L_ref05_Region).rep K cs2 a2) (h : ref05_Table_Set n a0 a1 a2 = some r) : FnB Try.prog 111 [.agg cs0.toArray, .int .i64 a1, .agg cs2.toArray] K (fun J v => ∃ u0, v = (.tuple #[.agg u0.toArray, .int .i64 r.2]) ∧ (L_ref05_Table).rep (fun w => K w ∧ J w) u0 (r.1)) := by
  unfold ref05_Table_Set at h
  refine fn_of Try.func111 (by kernel_rfl) rfl Try.ntmps111 rfl (fun cx hbs hpre hro => ?_)
  haveI := knf_pre hbs hpre
  refine WP_seq ?_
  refine WP_region ?_
  refine WL_x rfl (RX_boxa rfl) (fun b3 _ => ?_)
  refine WL_x rfl (RX_boxa rfl) (fun b5 _ => ?_)
  refine WL_x rfl (RX_alloc (hz := (⟨by kernel_rfl⟩ : TZero Try.prog 105 zc_ref05_Table))) (fun b6 _ => ?_)
  refine WL_v rfl (VS_assign rfl) ?_
  refine WL_nil ?_
  refine WQ_then ?_
  refine WP_seq ?_
  obtain ⟨x21, hx21, h⟩ := bd_e h
  refine WP_region ?_
  refine WL_v rfl (VS_field0 rfl) ?_
  refine WL_v rfl (VS_loadpart rfl (FlatL.iff.1 (P_ref05_Table_B.get f0)) (enc_len _ _)) ?_
  refine WL_v rfl (VS_move rfl) ?_
  refine WL_v rfl (VS_call (c_ref03_Book_Slot hx21) rfl (fun _ _ _ => trivial)) ?_
  refine WL_v rfl (VS_assign rfl) ?_
  refine WL_nil ?_
  refine WQ_then ?_
  refine WP_seq ?_
  refine WP_seq ?_
  refine WP_region ?_
  refine WL_v rfl (VS_move rfl) ?_
  refine WL_v rfl (VS_lss rfl rfl) ?_
  refine WL_nil ?_
  refine WQ_then ?_
  refine WP_if rfl (fun hc => ?_) (fun hc => ?_)
  ·
    replace h := cn_t hc h
    refine WP_seq ?_
    refine WP_region ?_
    refine WL_v rfl (VS_loadall rfl (Lay.len _ f0)) ?_
    obtain ⟨c22, hc22, f23⟩ : ∃ cc, splice zc_ref05_Table 0 cs0 = cc ∧ (L_ref05_Table).rep K cc a0 := ⟨_, rfl, (Pth.id (L := L_ref05_Table)).set (Lay.mono _ ent (show (L_ref05_Table).rep (Hs []) zc_ref05_Table Z_ref05_Table from zr_ref05_Table)) (Lay.mono _ ent f0)⟩
    refine WL_x0 (RX_stN cs0 (Pth.id (L := L_ref05_Table)) (v := a0) (r := (show (L_ref05_Table).rep (Hs []) zc_ref05_Table Z_ref05_Table from zr_ref05_Table)) (rv := ((Lay.mono _ ent f0) : (L_ref05_Table).rep K cs0 a0)) rfl rfl rfl rfl hc22) (fun _ _ => ?_)
    refine WL_v rfl (VS_assign rfl) ?_
    refine WL_nil ?_
    refine WQ_then ?_
    refine WP_ret ?_
    refine WQ_then_ret ?_
    replace h := Option.some.inj h
    subst h
    refine WQ_bundle (R := []) (H' := [.cells b6 105 c22]) (ks := [0]) rfl (by decide) ?_
    have p24 : (L_ref05_Table).rep (fun w => K w ∧ (Hs [.ext (blks []) (Hs [])]) w) c22 a0 := Lay.mono _ ent f23
    exact WQ_ret (.tuple #[.agg c22.toArray, .int .i64 4], blks [], Hs []) rfl (.agg rfl inferInstance inferInstance (Lay.len _ f23) (.tmp rfl .nil)) ⟨_, rfl, p24⟩ rfl (ks := [0]) rfl (by decide)
  ·
    replace h := cn_f hc h
    refine WP_skip ?_
    refine WQ_then ?_
    refine WP_seq ?_
    refine WP_seq ?_
    obtain ⟨x27, hx27, _, h⟩ := cl_e h
    refine WP_region ?_
    refine WL_v rfl (VS_field0 rfl) ?_
    refine WL_v rfl (VS_load rfl (P_ref05_Region_Quota.int f2)) ?_
    refine WL_v rfl (VS_lss rfl rfl) ?_
    refine WL_v rfl (VS_move rfl) ?_
    refine WL_g (Gd_b rfl rfl) rfl (fun hb => VS_field0 rfl) ?_
    refine WL_g (Gd_b rfl rfl) rfl (fun hb => VS_load (gev rfl hb) (P_ref05_Region_Quota.int f2)) ?_
    refine WL_g (Gd_b rfl rfl) rfl (fun hb => VS_gtr (gev rfl hb) rfl) ?_
    refine WL_v rfl (VS_or rfl rfl) ?_
    refine WL_v rfl (VS_move rfl) ?_
    refine WL_g (Gd_b rfl rfl) rfl (fun hb => VS_field0 rfl) ?_
    obtain ⟨c25, hc25, f26⟩ := rep_ex (P_ref05_Region_E.get f2)
    refine WL_g (Gd_b rfl rfl) rfl (fun hb => VS_loadpart (gev rfl hb) hc25 (Lay.len _ f26)) ?_
    refine WL_g (Gd_b rfl rfl) rfl (fun hb => VS_call (c_ref04_Extent_May (K := K) (Lay.mono _ ent f26) (hx27 hb)) (evs_cons (gev rfl hb) rfl) kn) ?_
    refine WL_g (Gd_b rfl rfl) rfl (fun hb => VS_not (gev rfl hb)) ?_
    refine WL_v rfl (VS_or rfl rfl) ?_
    refine WL_nil ?_
    refine WQ_then ?_
    refine WP_if rfl (fun hc => ?_) (fun hc => ?_)
    ·
      replace h := cn_t hc h
      refine WP_seq ?_
      refine WP_region ?_
      refine WL_v rfl (VS_loadall rfl (Lay.len _ f0)) ?_
      obtain ⟨c28, hc28, f29⟩ : ∃ cc, splice zc_ref05_Table 0 cs0 = cc ∧ (L_ref05_Table).rep K cc a0 := ⟨_, rfl, (Pth.id (L := L_ref05_Table)).set (Lay.mono _ ent (show (L_ref05_Table).rep (Hs []) zc_ref05_Table Z_ref05_Table from zr_ref05_Table)) (Lay.mono _ ent f0)⟩
      refine WL_x0 (RX_stN cs0 (Pth.id (L := L_ref05_Table)) (v := a0) (r := (show (L_ref05_Table).rep (Hs []) zc_ref05_Table Z_ref05_Table from zr_ref05_Table)) (rv := ((Lay.mono _ ent f0) : (L_ref05_Table).rep K cs0 a0)) rfl rfl rfl rfl hc28) (fun _ _ => ?_)
      refine WL_v rfl (VS_assign rfl) ?_
      refine WL_nil ?_
      refine WQ_then ?_
      refine WP_ret ?_
      refine WQ_then_ret ?_
      replace h := Option.some.inj h
      subst h
      refine WQ_bundle (R := []) (H' := [.cells b6 105 c28]) (ks := [0]) rfl (by decide) ?_
      have p30 : (L_ref05_Table).rep (fun w => K w ∧ (Hs [.ext (blks []) (Hs [])]) w) c28 a0 := Lay.mono _ ent f29
      exact WQ_ret (.tuple #[.agg c28.toArray, .int .i64 2], blks [], Hs []) rfl (.agg rfl inferInstance inferInstance (Lay.len _ f29) (.tmp rfl .nil)) ⟨_, rfl, p30⟩ rfl (ks := [0]) rfl (by decide)
    ·
      replace h := cn_f hc h
      refine WP_skip ?_
      refine WQ_then ?_
      refine WP_seq ?_
      obtain ⟨hg31, h⟩ := gu_e h
      obtain ⟨x32, hx32, h⟩ := lt_e h
      refine WP_region ?_
      refine WL_v rfl (VS_move rfl) ?_
      refine WL_v rfl (VS_field0 rfl) ?_
      refine WL_v rfl (VS_index (m := (Int.toNat x21)) rfl rfl (inb_e hg31).1 (inb_e hg31).2) ?_
      refine WL_v rfl (VS_field rfl) ?_
      refine WL_v rfl (VS_load rfl (((P_ref05_Table_R.comp (Pth.idx (L := L_ref05_Region) (m := 32) (k := 12) ((Int.toNat x21)) (inb_e hg31).2 rfl)).comp P_ref05_Region_Up).int f0)) ?_
      refine WL_v rfl (VS_field0 rfl) ?_
      obtain ⟨c33, hc33, f34⟩ : ∃ cc, splice cs2 0 ((LI .i64).enc ((a0.R (Int.toNat x21)).Up)) = cc ∧ (L_ref05_Region).rep K cc x32 := ⟨_, rfl, by rw [hx32]; exact P_ref05_Region_Up.set (Lay.mono _ ent f2) (FlatL.iff.2 rfl)⟩
      refine WL_x0 (RX_stN ((LI .i64).enc ((a0.R (Int.toNat x21)).Up)) P_ref05_Region_Up (v := (a0.R (Int.toNat x21)).Up) (r := f2) (rv := ((FlatL.iff.2 rfl) : ((LI .i64)).rep K ((LI .i64).enc ((a0.R (Int.toNat x21)).Up)) ((a0.R (Int.toNat x21)).Up))) rfl rfl rfl rfl hc33) (fun _ _ => ?_)
      refine WL_nil ?_
      refine WQ_then ?_
      refine WP_seq ?_
      obtain ⟨hg35, h⟩ := gu_e h
      obtain ⟨x36, hx36, h⟩ := lt_e h
      refine WP_region ?_
      refine WL_v rfl (VS_move rfl) ?_
      refine WL_v rfl (VS_loadall rfl (Lay.len _ f34)) ?_
      refine WL_v rfl (VS_field0 rfl) ?_
      refine WL_v rfl (VS_index (m := (Int.toNat x21)) rfl rfl (inb_e hg35).1 (inb_e hg35).2) ?_
      obtain ⟨c37, hc37, f38⟩ : ∃ cc, splice cs0 (64 + (Int.toNat x21) * 12) c33 = cc ∧ (L_ref05_Table).rep K cc x36 := ⟨_, rfl, by rw [hx36]; exact (P_ref05_Table_R.comp (Pth.idx (L := L_ref05_Region) (m := 32) (k := 12) ((Int.toNat x21)) (inb_e hg35).2 rfl)).set (Lay.mono _ ent f0) (Lay.mono _ ent f34)⟩
      refine WL_x0 (RX_stN c33 (P_ref05_Table_R.comp (Pth.idx (L := L_ref05_Region) (m := 32) (k := 12) ((Int.toNat x21)) (inb_e hg35).2 rfl)) (v := x32) (r := f0) (rv := ((Lay.mono _ ent f34) : (L_ref05_Region).rep K c33 x32)) rfl rfl rfl rfl hc37) (fun _ _ => ?_)
      refine WL_nil ?_
      refine WQ_then ?_
      refine WP_seq ?_
      refine WP_region ?_
      refine WL_v rfl (VS_loadall rfl (Lay.len _ f38)) ?_
      obtain ⟨c39, hc39, f40⟩ : ∃ cc, splice zc_ref05_Table 0 c37 = cc ∧ (L_ref05_Table).rep K cc x36 := ⟨_, rfl, (Pth.id (L := L_ref05_Table)).set (Lay.mono _ ent (show (L_ref05_Table).rep (Hs []) zc_ref05_Table Z_ref05_Table from zr_ref05_Table)) (Lay.mono _ ent f38)⟩
      refine WL_x0 (RX_stN c37 (Pth.id (L := L_ref05_Table)) (v := x36) (r := (show (L_ref05_Table).rep (Hs []) zc_ref05_Table Z_ref05_Table from zr_ref05_Table)) (rv := ((Lay.mono _ ent f38) : (L_ref05_Table).rep K c37 x36)) rfl rfl rfl rfl hc39) (fun _ _ => ?_)
      refine WL_v rfl (VS_assign rfl) ?_
      refine WL_nil ?_
      refine WQ_then ?_
      refine WP_ret ?_
      replace h := Option.some.inj h
      subst h
      refine WQ_bundle (R := []) (H' := [.cells b6 105 c39]) (ks := [0]) rfl (by decide) ?_
      have p41 : (L_ref05_Table).rep (fun w => K w ∧ (Hs [.ext (blks []) (Hs [])]) w) c39 x36 := Lay.mono _ ent f40
      exact WQ_ret (.tuple #[.agg c39.toArray, .int .i64 0], blks [], Hs []) rfl (.agg rfl inferInstance inferInstance (Lay.len _ f40) (.tmp rfl .nil)) ⟨_, rfl, p41⟩ rfl (ks := [0]) rfl (by decide)
def table_Table_Drop (n : Nat) (a0 : table_Table) (a1 : Int) : Option (table_Table × Int) :=
  bd (handle_Book_Void n a0.book.Book a1) fun x21 =>
  cn ((!x21.2)) (
  some (a0, 4)) (
  lt ({ a0 with book := { a0.book with Book := x21.1 } } : table_Table) fun x25 =>
  bd (handle_Handle_Slot n a1) fun x28 =>
  lt ({ Up := 0, Quota := 0, E := Z_extent_Extent, Cells := (fun _ => 0) } : table_Region) fun x29 =>
  gu (inb x28.1 32) <|
  lt ({ x25 with regions := (upd x25.regions (Int.toNat x28.1) x29) } : table_Table) fun x33 =>
  some (x33, 0))
theorem c_table_Table_Drop {n : Nat} {a0 : table_Table} {a1 : Int} {r : table_Table × Int} {K : World → Prop} [Stable K] {cs0 : List Value} (f0 : (L_table_Table).rep K cs0 a0) (h : table_Table_Drop n a0 a1 = some r) : FnB Try.prog 33 [.agg cs0.toArray, .int .u32 a1] K (fun J v => ∃ u0, v = (.tuple #[.agg u0.toArray, .int .i64 r.2]) ∧ (L_table_Table).rep (fun w => K w ∧ J w) u0 (r.1)) := by
  unfold table_Table_Drop at h
  refine fn_of Try.func33 (by kernel_rfl) rfl Try.ntmps33 rfl (fun cx hbs hpre hro => ?_)
  haveI := knf_pre hbs hpre
  refine WP_seq ?_
  refine WP_region ?_
  refine WL_x rfl (RX_boxa rfl) (fun b2 _ => ?_)
  refine WL_x rfl (RX_alloc (hz := (⟨by kernel_rfl⟩ : TZero Try.prog 77 zc_table_Table))) (fun b4 _ => ?_)
  refine WL_v rfl (VS_assign rfl) ?_
  refine WL_nil ?_
  refine WQ_then ?_
  refine WP_seq ?_
  obtain ⟨x21, hx21, h⟩ := bd_e h
  refine WP_region ?_
  refine WL_v rfl (VS_field0 rfl) ?_
  refine WL_v rfl (VS_field0 rfl) ?_
  refine WL_v rfl (VS_loadpart rfl (FlatL.iff.1 ((P_table_Table_book.c0 P_table_book_Book).get f0)) (enc_len _ _)) ?_
  refine WL_v rfl (VS_move rfl) ?_
  refine WL_v rfl (VS_call (c_handle_Book_Void hx21) rfl (fun _ _ _ => trivial)) ?_
  refine WL_v rfl (VS_move rfl) ?_
  refine WL_v rfl (VS_extract rfl rfl) ?_
  refine WL_v rfl (VS_extract rfl rfl) ?_
  refine WL_x rfl (RX_allocL (L := L_handle_Book) (z := Z_handle_Book) ⟨by kernel_rfl⟩) (fun b6 _ => ?_)
  refine WL_x0 (RX_st (M := L_handle_Book) (Pth.id (L := L_handle_Book)) x21.1 x21.1 rfl rfl rfl rfl rfl) (fun _ _ => ?_)
  refine WL_v rfl (VS_assign rfl) ?_
  refine WL_nil ?_
  refine WQ_then ?_
  refine WP_seq ?_
  refine WP_seq ?_
  refine WP_region ?_
  refine WL_v rfl (VS_move rfl) ?_
  refine WL_v rfl (VS_not rfl) ?_
  refine WL_nil ?_
  refine WQ_then ?_
  refine WP_if rfl (fun hc => ?_) (fun hc => ?_)
  ·
    replace h := cn_t hc h
    refine WP_seq ?_
    refine WP_region ?_
    refine WL_v rfl (VS_loadall rfl (Lay.len _ f0)) ?_
    obtain ⟨c22, hc22, f23⟩ : ∃ cc, splice zc_table_Table 0 cs0 = cc ∧ (L_table_Table).rep K cc a0 := ⟨_, rfl, (Pth.id (L := L_table_Table)).set (Lay.mono _ ent (show (L_table_Table).rep (Hs []) zc_table_Table Z_table_Table from zr_table_Table)) (Lay.mono _ ent f0)⟩
    refine WL_x0 (RX_stN cs0 (Pth.id (L := L_table_Table)) (v := a0) (r := (show (L_table_Table).rep (Hs []) zc_table_Table Z_table_Table from zr_table_Table)) (rv := ((Lay.mono _ ent f0) : (L_table_Table).rep K cs0 a0)) rfl rfl rfl rfl hc22) (fun _ _ => ?_)
    refine WL_v rfl (VS_assign rfl) ?_
    refine WL_nil ?_
    refine WQ_then ?_
    refine WP_ret ?_
    refine WQ_then_ret ?_
    replace h := Option.some.inj h
    subst h
    refine WQ_bundle (R := []) (H' := [.cells b4 77 c22]) (ks := [1]) rfl (by decide) ?_
    have p24 : (L_table_Table).rep (fun w => K w ∧ (Hs [.ext (blks []) (Hs [])]) w) c22 a0 := Lay.mono _ ent f23
    exact WQ_ret (.tuple #[.agg c22.toArray, .int .i64 4], blks [], Hs []) rfl (.agg rfl inferInstance inferInstance (Lay.len _ f23) (.tmp rfl .nil)) ⟨_, rfl, p24⟩ rfl (ks := [0]) rfl (by decide)
  ·
    replace h := cn_f hc h
    refine WP_skip ?_
    refine WQ_then ?_
    refine WP_seq ?_
    obtain ⟨x25, hx25, h⟩ := lt_e h
    refine WP_region ?_
    refine WL_v rfl (VS_lda (M := L_handle_Book) (Pth.id (L := L_handle_Book)) rfl rfl) ?_
    refine WL_v rfl (VS_field0 rfl) ?_
    refine WL_v rfl (VS_field0 rfl) ?_
    obtain ⟨c26, hc26, f27⟩ : ∃ cc, splice cs0 0 (L_handle_Book.enc x21.1) = cc ∧ (L_table_Table).rep K cc x25 := ⟨_, rfl, by rw [hx25]; exact (P_table_Table_book.c0 P_table_book_Book).set (Lay.mono _ ent f0) (FlatL.iff.2 rfl)⟩
    refine WL_x0 (RX_stN (L_handle_Book.enc x21.1) (P_table_Table_book.c0 P_table_book_Book) (v := x21.1) (r := f0) (rv := ((FlatL.iff.2 rfl) : (L_handle_Book).rep K (L_handle_Book.enc x21.1) x21.1)) rfl rfl rfl rfl hc26) (fun _ _ => ?_)
    refine WL_nil ?_
    refine WQ_then ?_
    refine WP_seq ?_
    obtain ⟨x28, hx28, h⟩ := bd_e h
    refine WP_region ?_
    refine WL_v rfl (VS_move rfl) ?_
    refine WL_v rfl (VS_call (c_handle_Handle_Slot hx28) rfl (fun _ _ _ => trivial)) ?_
    refine WL_v rfl (VS_move rfl) ?_
    refine WL_v rfl (VS_extract rfl rfl) ?_
    refine WL_v rfl (VS_extract rfl rfl) ?_
    refine WL_v rfl (VS_assign rfl) ?_
    refine WL_v rfl (VS_assign rfl) ?_
    refine WL_nil ?_
    refine WQ_then ?_
    refine WP_seq ?_
    obtain ⟨x29, hx29, h⟩ := lt_e h
    obtain ⟨hg32, h⟩ := gu_e h
    obtain ⟨x33, hx33, h⟩ := lt_e h
    refine WP_region ?_
    refine WL_v rfl (VS_move rfl) ?_
    obtain ⟨c30, hc30, f31⟩ : ∃ cc, (((LI .u32).enc 0) ++ (((LI .i64).enc 0) ++ (zc_extent_Extent ++ ((LA (LI .u32) 8).enc (fun _ => 0))))) = cc ∧ (L_table_Region).rep (Hs []) cc x29 := ⟨_, rfl, by rw [hx29]; exact ⟨_, _, rfl, (FlatL.iff.2 rfl), ⟨_, _, rfl, (FlatL.iff.2 rfl), ⟨_, _, rfl, zr_extent_Extent, (FlatL.iff.2 rfl)⟩⟩⟩⟩
    refine WL_v rfl (VS_build (cs := c30) rfl (by rw [← hc30]; rfl)) ?_
    refine WL_v rfl (VS_field0 rfl) ?_
    refine WL_v rfl (VS_index (m := (Int.toNat x28.1)) rfl rfl (inb_e hg32).1 (inb_e hg32).2) ?_
    obtain ⟨c34, hc34, f35⟩ : ∃ cc, splice c26 (96 + (Int.toNat x28.1) * 12) c30 = cc ∧ (L_table_Table).rep K cc x33 := ⟨_, rfl, by rw [hx33]; exact (P_table_Table_regions.comp (Pth.idx (L := L_table_Region) (m := 32) (k := 12) ((Int.toNat x28.1)) (inb_e hg32).2 rfl)).set (Lay.mono _ ent f27) (Lay.mono _ ent f31)⟩
    refine WL_x0 (RX_stN c30 (P_table_Table_regions.comp (Pth.idx (L := L_table_Region) (m := 32) (k := 12) ((Int.toNat x28.1)) (inb_e hg32).2 rfl)) (v := x29) (r := f27) (rv := ((Lay.mono _ ent f31) : (L_table_Region).rep K c30 x29)) rfl rfl rfl rfl hc34) (fun _ _ => ?_)
    refine WL_nil ?_
    refine WQ_then ?_
    refine WP_seq ?_
    refine WP_region ?_
    refine WL_v rfl (VS_loadall rfl (Lay.len _ f35)) ?_
    obtain ⟨c36, hc36, f37⟩ : ∃ cc, splice zc_table_Table 0 c34 = cc ∧ (L_table_Table).rep K cc x33 := ⟨_, rfl, (Pth.id (L := L_table_Table)).set (Lay.mono _ ent (show (L_table_Table).rep (Hs []) zc_table_Table Z_table_Table from zr_table_Table)) (Lay.mono _ ent f35)⟩
    refine WL_x0 (RX_stN c34 (Pth.id (L := L_table_Table)) (v := x33) (r := (show (L_table_Table).rep (Hs []) zc_table_Table Z_table_Table from zr_table_Table)) (rv := ((Lay.mono _ ent f35) : (L_table_Table).rep K c34 x33)) rfl rfl rfl rfl hc36) (fun _ _ => ?_)
    refine WL_v rfl (VS_assign rfl) ?_
    refine WL_nil ?_
    refine WQ_then ?_
    refine WP_ret ?_
    replace h := Option.some.inj h
    subst h
    refine WQ_bundle (R := []) (H' := [.cells b4 77 c36]) (ks := [1]) rfl (by decide) ?_
    have p38 : (L_table_Table).rep (fun w => K w ∧ (Hs [.ext (blks []) (Hs [])]) w) c36 x33 := Lay.mono _ ent f37
    exact WQ_ret (.tuple #[.agg c36.toArray, .int .i64 0], blks [], Hs []) rfl (.agg rfl inferInstance inferInstance (Lay.len _ f37) (.tmp rfl .nil)) ⟨_, rfl, p38⟩ rfl (ks := [0]) rfl (by decide)
def table_quota (n : Nat) (a0 : Int) : Option Bool :=
  some (decide (0 ≤ a0) && decide (a0 ≤ 64))
theorem c_table_quota {n : Nat} {a0 : Int} {r : Bool}  (h : table_quota n a0 = some r) : FnV Try.prog 102 [.int .i64 a0] (.bool r) := by
  unfold table_quota at h
  refine fn_of Try.func102 (by kernel_rfl) rfl Try.ntmps102 rfl (fun cx hbs hpre hro => ?_)
  refine WP_seq ?_
  refine WP_region ?_
  refine WL_v rfl (VS_assign rfl) ?_
  refine WL_nil ?_
  refine WQ_then ?_
  refine WP_seq ?_
  refine WP_region ?_
  refine WL_v rfl (VS_move rfl) ?_
  refine WL_v rfl (VS_geq rfl rfl) ?_
  refine WL_v rfl (VS_move rfl) ?_
  refine WL_g (Gd_b rfl rfl) rfl (fun hb => VS_move rfl) ?_
  refine WL_g (Gd_b rfl rfl) rfl (fun hb => VS_leq (gev rfl hb) rfl) ?_
  refine WL_v rfl (VS_and rfl rfl) ?_
  refine WL_v rfl (VS_assign rfl) ?_
  refine WL_nil ?_
  refine WQ_then ?_
  refine WP_ret ?_
  replace h := Option.some.inj h
  subst h
  exact WQ_ret () rfl (.tmp rfl .nil) trivial rfl (ks := []) rfl (by decide)
def table_Table_New (n : Nat) (a0 : table_Table) (a1 : Int) (a2 : Int) : Option (table_Table × Int × Int) :=
  cl ((a1 != 0) == true) (handle_Book_Good n a0.book.Book a1) default fun x21 =>
  cn (((a1 != 0) && (!x21))) (
  some (a0, 0, 4)) (
  bd (table_quota n a2) fun x25 =>
  cn ((!x25)) (
  some (a0, 0, 2)) (
  bd (handle_Book_Issue n a0.book.Book) fun x29 =>
  cn ((!x29.2.2)) (
  some (a0, 0, 7)) (
  lt ({ a0 with book := { a0.book with Book := x29.1 } } : table_Table) fun x33 =>
  bd (handle_Handle_Slot n x29.2.1) fun x36 =>
  lt ({ Up := a1, Quota := a2, E := Z_extent_Extent, Cells := (fun _ => 0) } : table_Region) fun x37 =>
  gu (inb x36.1 32) <|
  lt ({ x33 with regions := (upd x33.regions (Int.toNat x36.1) x37) } : table_Table) fun x41 =>
  some (x41, x29.2.1, 0))))
theorem c_table_Table_New {n : Nat} {a0 : table_Table} {a1 : Int} {a2 : Int} {r : table_Table × Int × Int} {K : World → Prop} [Stable K] {cs0 : List Value} (f0 : (L_table_Table).rep K cs0 a0) (h : table_Table_New n a0 a1 a2 = some r) : FnB Try.prog 37 [.agg cs0.toArray, .int .u32 a1, .int .i64 a2] K (fun J v => ∃ u0, v = (.tuple #[.agg u0.toArray, .int .u32 r.2.1, .int .i64 r.2.2]) ∧ (L_table_Table).rep (fun w => K w ∧ J w) u0 (r.1)) := by
  unfold table_Table_New at h
  refine fn_of Try.func37 (by kernel_rfl) rfl Try.ntmps37 rfl (fun cx hbs hpre hro => ?_)
  haveI := knf_pre hbs hpre
  refine WP_seq ?_
  refine WP_region ?_
  refine WL_x rfl (RX_boxa rfl) (fun b3 _ => ?_)
  refine WL_x rfl (RX_alloc (hz := (⟨by kernel_rfl⟩ : TZero Try.prog 77 zc_table_Table))) (fun b6 _ => ?_)
  refine WL_v rfl (VS_assign rfl) ?_
  refine WL_v rfl (VS_assign rfl) ?_
  refine WL_nil ?_
  refine WQ_then ?_
  refine WP_seq ?_
  refine WP_block ?_
  refine WP_seq ?_
  obtain ⟨x21, hx21, _, h⟩ := cl_e h
  refine WP_region ?_
  refine WL_v rfl (VS_move rfl) ?_
  refine WL_v rfl (VS_neq rfl rfl) ?_
  refine WL_v rfl (VS_move rfl) ?_
  refine WL_g (Gd_b rfl rfl) rfl (fun hb => VS_field0 rfl) ?_
  refine WL_g (Gd_b rfl rfl) rfl (fun hb => VS_field0 (gev rfl hb)) ?_
  refine WL_g (Gd_b rfl rfl) rfl (fun hb => VS_loadpart (gev rfl hb) (FlatL.iff.1 ((P_table_Table_book.c0 P_table_book_Book).get f0)) (enc_len _ _)) ?_
  refine WL_g (Gd_b rfl rfl) rfl (fun hb => VS_move rfl) ?_
  refine WL_g (Gd_b rfl rfl) rfl (fun hb => VS_call (c_handle_Book_Good (hx21 hb)) (evs_cons (gev rfl hb) (evs_cons (gev rfl hb) rfl)) (fun _ _ _ => trivial)) ?_
  refine WL_g (Gd_b rfl rfl) rfl (fun hb => VS_not (gev rfl hb)) ?_
  refine WL_v rfl (VS_and rfl rfl) ?_
  refine WL_v rfl (VS_assign rfl) ?_
  refine WL_nil ?_
  refine WQ_then ?_
  refine WP_if rfl (fun hc => ?_) (fun hc => ?_)
  ·
    replace h := cn_t hc h
    refine WP_seq ?_
    refine WP_region ?_
    refine WL_v rfl (VS_loadall rfl (Lay.len _ f0)) ?_
    obtain ⟨c22, hc22, f23⟩ : ∃ cc, splice zc_table_Table 0 cs0 = cc ∧ (L_table_Table).rep K cc a0 := ⟨_, rfl, (Pth.id (L := L_table_Table)).set (Lay.mono _ ent (show (L_table_Table).rep (Hs []) zc_table_Table Z_table_Table from zr_table_Table)) (Lay.mono _ ent f0)⟩
    refine WL_x0 (RX_stN cs0 (Pth.id (L := L_table_Table)) (v := a0) (r := (show (L_table_Table).rep (Hs []) zc_table_Table Z_table_Table from zr_table_Table)) (rv := ((Lay.mono _ ent f0) : (L_table_Table).rep K cs0 a0)) rfl rfl rfl rfl hc22) (fun _ _ => ?_)
    refine WL_v rfl (VS_assign rfl) ?_
    refine WL_v rfl (VS_assign rfl) ?_
    refine WL_nil ?_
    refine WQ_then ?_
    refine WP_ret ?_
    refine WQ_block_ret ?_
    refine WQ_then_ret ?_
    replace h := Option.some.inj h
    subst h
    refine WQ_bundle (R := []) (H' := [.cells b6 77 c22]) (ks := [0]) rfl (by decide) ?_
    have p24 : (L_table_Table).rep (fun w => K w ∧ (Hs [.ext (blks []) (Hs [])]) w) c22 a0 := Lay.mono _ ent f23
    exact WQ_ret (.tuple #[.agg c22.toArray, .int .u32 0, .int .i64 4], blks [], Hs []) rfl (.agg rfl inferInstance inferInstance (Lay.len _ f23) (.tmp rfl (.tmp rfl .nil))) ⟨_, rfl, p24⟩ rfl (ks := [0]) rfl (by decide)
  ·
    replace h := cn_f hc h
    refine WP_seq ?_
    obtain ⟨x25, hx25, h⟩ := bd_e h
    refine WP_region ?_
    refine WL_v rfl (VS_move rfl) ?_
    refine WL_v rfl (VS_call (c_table_quota hx25) rfl (fun _ _ _ => trivial)) ?_
    refine WL_v rfl (VS_not rfl) ?_
    refine WL_v rfl (VS_assign rfl) ?_
    refine WL_nil ?_
    refine WQ_then ?_
    refine WP_if rfl (fun hc => ?_) (fun hc => ?_)
    ·
      replace h := cn_t hc h
      refine WP_seq ?_
      refine WP_region ?_
      refine WL_v rfl (VS_loadall rfl (Lay.len _ f0)) ?_
      obtain ⟨c26, hc26, f27⟩ : ∃ cc, splice zc_table_Table 0 cs0 = cc ∧ (L_table_Table).rep K cc a0 := ⟨_, rfl, (Pth.id (L := L_table_Table)).set (Lay.mono _ ent (show (L_table_Table).rep (Hs []) zc_table_Table Z_table_Table from zr_table_Table)) (Lay.mono _ ent f0)⟩
      refine WL_x0 (RX_stN cs0 (Pth.id (L := L_table_Table)) (v := a0) (r := (show (L_table_Table).rep (Hs []) zc_table_Table Z_table_Table from zr_table_Table)) (rv := ((Lay.mono _ ent f0) : (L_table_Table).rep K cs0 a0)) rfl rfl rfl rfl hc26) (fun _ _ => ?_)
      refine WL_v rfl (VS_assign rfl) ?_
      refine WL_v rfl (VS_assign rfl) ?_
      refine WL_nil ?_
      refine WQ_then ?_
      refine WP_ret ?_
      refine WQ_block_ret ?_
      refine WQ_then_ret ?_
      replace h := Option.some.inj h
      subst h
      refine WQ_bundle (R := []) (H' := [.cells b6 77 c26]) (ks := [0]) rfl (by decide) ?_
      have p28 : (L_table_Table).rep (fun w => K w ∧ (Hs [.ext (blks []) (Hs [])]) w) c26 a0 := Lay.mono _ ent f27
      exact WQ_ret (.tuple #[.agg c26.toArray, .int .u32 0, .int .i64 2], blks [], Hs []) rfl (.agg rfl inferInstance inferInstance (Lay.len _ f27) (.tmp rfl (.tmp rfl .nil))) ⟨_, rfl, p28⟩ rfl (ks := [0]) rfl (by decide)
    ·
      replace h := cn_f hc h
      refine WP_skip ?_
      refine WQ_block ?_
      refine WQ_then ?_
      refine WP_seq ?_
      obtain ⟨x29, hx29, h⟩ := bd_e h
      refine WP_region ?_
      refine WL_v rfl (VS_field0 rfl) ?_
      refine WL_v rfl (VS_field0 rfl) ?_
      refine WL_v rfl (VS_loadpart rfl (FlatL.iff.1 ((P_table_Table_book.c0 P_table_book_Book).get f0)) (enc_len _ _)) ?_
      refine WL_v rfl (VS_call (c_handle_Book_Issue hx29) rfl (fun _ _ _ => trivial)) ?_
      refine WL_v rfl (VS_move rfl) ?_
      refine WL_v rfl (VS_extract rfl rfl) ?_
      refine WL_v rfl (VS_extract rfl rfl) ?_
      refine WL_v rfl (VS_extract rfl rfl) ?_
      refine WL_x rfl (RX_allocL (L := L_handle_Book) (z := Z_handle_Book) ⟨by kernel_rfl⟩) (fun b9 _ => ?_)
      refine WL_x0 (RX_st (M := L_handle_Book) (Pth.id (L := L_handle_Book)) x29.1 x29.1 rfl rfl rfl rfl rfl) (fun _ _ => ?_)
      refine WL_v rfl (VS_assign rfl) ?_
      refine WL_v rfl (VS_assign rfl) ?_
      refine WL_nil ?_
      refine WQ_then ?_
      refine WP_seq ?_
      refine WP_seq ?_
      refine WP_region ?_
      refine WL_v rfl (VS_move rfl) ?_
      refine WL_v rfl (VS_not rfl) ?_
      refine WL_nil ?_
      refine WQ_then ?_
      refine WP_if rfl (fun hc => ?_) (fun hc => ?_)
      ·
        replace h := cn_t hc h
        refine WP_seq ?_
        refine WP_region ?_
        refine WL_v rfl (VS_loadall rfl (Lay.len _ f0)) ?_
        obtain ⟨c30, hc30, f31⟩ : ∃ cc, splice zc_table_Table 0 cs0 = cc ∧ (L_table_Table).rep K cc a0 := ⟨_, rfl, (Pth.id (L := L_table_Table)).set (Lay.mono _ ent (show (L_table_Table).rep (Hs []) zc_table_Table Z_table_Table from zr_table_Table)) (Lay.mono _ ent f0)⟩
        refine WL_x0 (RX_stN cs0 (Pth.id (L := L_table_Table)) (v := a0) (r := (show (L_table_Table).rep (Hs []) zc_table_Table Z_table_Table from zr_table_Table)) (rv := ((Lay.mono _ ent f0) : (L_table_Table).rep K cs0 a0)) rfl rfl rfl rfl hc30) (fun _ _ => ?_)
        refine WL_v rfl (VS_assign rfl) ?_
        refine WL_v rfl (VS_assign rfl) ?_
        refine WL_nil ?_
        refine WQ_then ?_
        refine WP_ret ?_
        refine WQ_then_ret ?_
        replace h := Option.some.inj h
        subst h
        refine WQ_bundle (R := []) (H' := [.cells b6 77 c30]) (ks := [1]) rfl (by decide) ?_
        have p32 : (L_table_Table).rep (fun w => K w ∧ (Hs [.ext (blks []) (Hs [])]) w) c30 a0 := Lay.mono _ ent f31
        exact WQ_ret (.tuple #[.agg c30.toArray, .int .u32 0, .int .i64 7], blks [], Hs []) rfl (.agg rfl inferInstance inferInstance (Lay.len _ f31) (.tmp rfl (.tmp rfl .nil))) ⟨_, rfl, p32⟩ rfl (ks := [0]) rfl (by decide)
      ·
        replace h := cn_f hc h
        refine WP_skip ?_
        refine WQ_then ?_
        refine WP_seq ?_
        obtain ⟨x33, hx33, h⟩ := lt_e h
        refine WP_region ?_
        refine WL_v rfl (VS_lda (M := L_handle_Book) (Pth.id (L := L_handle_Book)) rfl rfl) ?_
        refine WL_v rfl (VS_field0 rfl) ?_
        refine WL_v rfl (VS_field0 rfl) ?_
        obtain ⟨c34, hc34, f35⟩ : ∃ cc, splice cs0 0 (L_handle_Book.enc x29.1) = cc ∧ (L_table_Table).rep K cc x33 := ⟨_, rfl, by rw [hx33]; exact (P_table_Table_book.c0 P_table_book_Book).set (Lay.mono _ ent f0) (FlatL.iff.2 rfl)⟩
        refine WL_x0 (RX_stN (L_handle_Book.enc x29.1) (P_table_Table_book.c0 P_table_book_Book) (v := x29.1) (r := f0) (rv := ((FlatL.iff.2 rfl) : (L_handle_Book).rep K (L_handle_Book.enc x29.1) x29.1)) rfl rfl rfl rfl hc34) (fun _ _ => ?_)
        refine WL_nil ?_
        refine WQ_then ?_
        refine WP_seq ?_
        obtain ⟨x36, hx36, h⟩ := bd_e h
        refine WP_region ?_
        refine WL_v rfl (VS_move rfl) ?_
        refine WL_v rfl (VS_call (c_handle_Handle_Slot hx36) rfl (fun _ _ _ => trivial)) ?_
        refine WL_v rfl (VS_move rfl) ?_
        refine WL_v rfl (VS_extract rfl rfl) ?_
        refine WL_v rfl (VS_extract rfl rfl) ?_
        refine WL_v rfl (VS_assign rfl) ?_
        refine WL_v rfl (VS_assign rfl) ?_
        refine WL_nil ?_
        refine WQ_then ?_
        refine WP_seq ?_
        obtain ⟨x37, hx37, h⟩ := lt_e h
        obtain ⟨hg40, h⟩ := gu_e h
        obtain ⟨x41, hx41, h⟩ := lt_e h
        refine WP_region ?_
        refine WL_v rfl (VS_move rfl) ?_
        refine WL_v rfl (VS_move rfl) ?_
        refine WL_v rfl (VS_move rfl) ?_
        obtain ⟨c38, hc38, f39⟩ : ∃ cc, (((LI .u32).enc a1) ++ (((LI .i64).enc a2) ++ (zc_extent_Extent ++ ((LA (LI .u32) 8).enc (fun _ => 0))))) = cc ∧ (L_table_Region).rep (Hs []) cc x37 := ⟨_, rfl, by rw [hx37]; exact ⟨_, _, rfl, (FlatL.iff.2 rfl), ⟨_, _, rfl, (FlatL.iff.2 rfl), ⟨_, _, rfl, zr_extent_Extent, (FlatL.iff.2 rfl)⟩⟩⟩⟩
        refine WL_v rfl (VS_build (cs := c38) rfl (by rw [← hc38]; rfl)) ?_
        refine WL_v rfl (VS_field0 rfl) ?_
        refine WL_v rfl (VS_index (m := (Int.toNat x36.1)) rfl rfl (inb_e hg40).1 (inb_e hg40).2) ?_
        obtain ⟨c42, hc42, f43⟩ : ∃ cc, splice c34 (96 + (Int.toNat x36.1) * 12) c38 = cc ∧ (L_table_Table).rep K cc x41 := ⟨_, rfl, by rw [hx41]; exact (P_table_Table_regions.comp (Pth.idx (L := L_table_Region) (m := 32) (k := 12) ((Int.toNat x36.1)) (inb_e hg40).2 rfl)).set (Lay.mono _ ent f35) (Lay.mono _ ent f39)⟩
        refine WL_x0 (RX_stN c38 (P_table_Table_regions.comp (Pth.idx (L := L_table_Region) (m := 32) (k := 12) ((Int.toNat x36.1)) (inb_e hg40).2 rfl)) (v := x37) (r := f35) (rv := ((Lay.mono _ ent f39) : (L_table_Region).rep K c38 x37)) rfl rfl rfl rfl hc42) (fun _ _ => ?_)
        refine WL_nil ?_
        refine WQ_then ?_
        refine WP_seq ?_
        refine WP_region ?_
        refine WL_v rfl (VS_loadall rfl (Lay.len _ f43)) ?_
        refine WL_v rfl (VS_move rfl) ?_
        obtain ⟨c44, hc44, f45⟩ : ∃ cc, splice zc_table_Table 0 c42 = cc ∧ (L_table_Table).rep K cc x41 := ⟨_, rfl, (Pth.id (L := L_table_Table)).set (Lay.mono _ ent (show (L_table_Table).rep (Hs []) zc_table_Table Z_table_Table from zr_table_Table)) (Lay.mono _ ent f43)⟩
        refine WL_x0 (RX_stN c42 (Pth.id (L := L_table_Table)) (v := x41) (r := (show (L_table_Table).rep (Hs []) zc_table_Table Z_table_Table from zr_table_Table)) (rv := ((Lay.mono _ ent f43) : (L_table_Table).rep K c42 x41)) rfl rfl rfl rfl hc44) (fun _ _ => ?_)
        refine WL_v rfl (VS_assign rfl) ?_
        refine WL_v rfl (VS_assign rfl) ?_
        refine WL_nil ?_
        refine WQ_then ?_
        refine WP_ret ?_
        replace h := Option.some.inj h
        subst h
        refine WQ_bundle (R := []) (H' := [.cells b6 77 c44]) (ks := [1]) rfl (by decide) ?_
        have p46 : (L_table_Table).rep (fun w => K w ∧ (Hs [.ext (blks []) (Hs [])]) w) c44 x41 := Lay.mono _ ent f45
        exact WQ_ret (.tuple #[.agg c44.toArray, .int .u32 x29.2.1, .int .i64 0], blks [], Hs []) rfl (.agg rfl inferInstance inferInstance (Lay.len _ f45) (.tmp rfl (.tmp rfl .nil))) ⟨_, rfl, p46⟩ rfl (ks := [0]) rfl (by decide)
def table_Table_Raise (n : Nat) (a0 : table_Table) (a1 : Int) (a2 : Int) : Option (table_Table × Int) :=
  bd (handle_Book_Good n a0.book.Book a1) fun x21 =>
  cl (((!x21) == false) && ((a2 != 0) == true)) (handle_Book_Good n a0.book.Book a2) default fun x22 =>
  cn (((!x21) || ((a2 != 0) && (!x22)))) (
  some (a0, 4)) (
  loop1 (fun k30 (x27 : Int) =>
  cn ((x27 != 0)) (
  cn ((x27 == a1)) (
  some (a0, 12)) (
  bd (table_Table_up n a0 x27) fun x34 =>
  k30 x34)) (
  bd (handle_Handle_Slot n a1) fun x35 =>
  gu (inb x35.1 32) <|
  lt ({ a0 with regions := (upd a0.regions (Int.toNat x35.1) ({ (a0.regions (Int.toNat x35.1)) with Up := a2 })) } : table_Table) fun x37 =>
  some (x37, 0))) n a2)
theorem c_table_Table_Raise {n : Nat} {a0 : table_Table} {a1 : Int} {a2 : Int} {r : table_Table × Int} {K : World → Prop} [Stable K] {cs0 : List Value} (f0 : (L_table_Table).rep K cs0 a0) (h : table_Table_Raise n a0 a1 a2 = some r) : FnB Try.prog 36 [.agg cs0.toArray, .int .u32 a1, .int .u32 a2] K (fun J v => ∃ u0, v = (.tuple #[.agg u0.toArray, .int .i64 r.2]) ∧ (L_table_Table).rep (fun w => K w ∧ J w) u0 (r.1)) := by
  unfold table_Table_Raise at h
  refine fn_of Try.func36 (by kernel_rfl) rfl Try.ntmps36 rfl (fun cx hbs hpre hro => ?_)
  haveI := knf_pre hbs hpre
  refine WP_seq ?_
  refine WP_region ?_
  refine WL_x rfl (RX_boxa rfl) (fun b3 _ => ?_)
  refine WL_x rfl (RX_alloc (hz := (⟨by kernel_rfl⟩ : TZero Try.prog 77 zc_table_Table))) (fun b6 _ => ?_)
  refine WL_v rfl (VS_assign rfl) ?_
  refine WL_nil ?_
  refine WQ_then ?_
  refine WP_seq ?_
  refine WP_seq ?_
  obtain ⟨x21, hx21, h⟩ := bd_e h
  obtain ⟨x22, hx22, _, h⟩ := cl_e h
  refine WP_region ?_
  refine WL_v rfl (VS_field0 rfl) ?_
  refine WL_v rfl (VS_field0 rfl) ?_
  refine WL_v rfl (VS_loadpart rfl (FlatL.iff.1 ((P_table_Table_book.c0 P_table_book_Book).get f0)) (enc_len _ _)) ?_
  refine WL_v rfl (VS_move rfl) ?_
  refine WL_v rfl (VS_call (c_handle_Book_Good hx21) rfl (fun _ _ _ => trivial)) ?_
  refine WL_v rfl (VS_not rfl) ?_
  refine WL_v rfl (VS_move rfl) ?_
  refine WL_g (Gd_b rfl rfl) rfl (fun hb => VS_move rfl) ?_
  refine WL_g (Gd_b rfl rfl) rfl (fun hb => VS_neq (gev rfl hb) rfl) ?_
  refine WL_g (Gd_b rfl rfl) rfl (fun hb => VS_move (gev rfl hb)) ?_
  refine WL_g (Gd_g rfl rfl) rfl (fun hb => VS_field0 rfl) ?_
  refine WL_g (Gd_g rfl rfl) rfl (fun hb => VS_field0 (gev rfl hb)) ?_
  refine WL_g (Gd_g rfl rfl) rfl (fun hb => VS_loadpart (gev rfl hb) (FlatL.iff.1 ((P_table_Table_book.c0 P_table_book_Book).get f0)) (enc_len _ _)) ?_
  refine WL_g (Gd_g rfl rfl) rfl (fun hb => VS_move rfl) ?_
  refine WL_g (Gd_g rfl rfl) rfl (fun hb => VS_call (c_handle_Book_Good (hx22 hb)) (evs_cons (gev rfl hb) (evs_cons (gev rfl hb) rfl)) (fun _ _ _ => trivial)) ?_
  refine WL_g (Gd_g rfl rfl) rfl (fun hb => VS_not (gev rfl hb)) ?_
  refine WL_g (Gd_b rfl rfl) rfl (fun hb => VS_and (gev rfl hb) (gev2 rfl hb)) ?_
  refine WL_v rfl (VS_or rfl rfl) ?_
  refine WL_nil ?_
  refine WQ_then ?_
  refine WP_if rfl (fun hc => ?_) (fun hc => ?_)
  ·
    replace h := cn_t hc h
    refine WP_seq ?_
    refine WP_region ?_
    refine WL_v rfl (VS_loadall rfl (Lay.len _ f0)) ?_
    obtain ⟨c23, hc23, f24⟩ : ∃ cc, splice zc_table_Table 0 cs0 = cc ∧ (L_table_Table).rep K cc a0 := ⟨_, rfl, (Pth.id (L := L_table_Table)).set (Lay.mono _ ent (show (L_table_Table).rep (Hs []) zc_table_Table Z_table_Table from zr_table_Table)) (Lay.mono _ ent f0)⟩
    refine WL_x0 (RX_stN cs0 (Pth.id (L := L_table_Table)) (v := a0) (r := (show (L_table_Table).rep (Hs []) zc_table_Table Z_table_Table from zr_table_Table)) (rv := ((Lay.mono _ ent f0) : (L_table_Table).rep K cs0 a0)) rfl rfl rfl rfl hc23) (fun _ _ => ?_)
    refine WL_v rfl (VS_assign rfl) ?_
    refine WL_nil ?_
    refine WQ_then ?_
    refine WP_ret ?_
    refine WQ_then_ret ?_
    replace h := Option.some.inj h
    subst h
    refine WQ_bundle (R := []) (H' := [.cells b6 77 c23]) (ks := [0]) rfl (by decide) ?_
    have p25 : (L_table_Table).rep (fun w => K w ∧ (Hs [.ext (blks []) (Hs [])]) w) c23 a0 := Lay.mono _ ent f24
    exact WQ_ret (.tuple #[.agg c23.toArray, .int .i64 4], blks [], Hs []) rfl (.agg rfl inferInstance inferInstance (Lay.len _ f24) (.tmp rfl .nil)) ⟨_, rfl, p25⟩ rfl (ks := [0]) rfl (by decide)
  ·
    replace h := cn_f hc h
    refine WP_skip ?_
    refine WQ_then ?_
    refine WP_seq ?_
    refine WP_seq ?_
    refine WP_region ?_
    refine WL_v rfl (VS_move rfl) ?_
    refine WL_v rfl (VS_assign rfl) ?_
    refine WL_nil ?_
    refine WQ_then ?_
    refine WP_block ?_
    obtain ⟨lb28, hlb28, h⟩ := lp1_i h
    refine WP_loops (α := Nat × Int) [1, 2, 3, 6] (.cons rfl (.cons rfl (.cons rfl (.cons rfl (.nil))))) (fun (m29, x27) => [(8, .int .u32 x27)]) (fun (m29, x27) => [.cells b6 77 zc_table_Table, .cells b3 77 cs0]) (fun (m29, x27) => loop1 lb28 m29 x27 = some r) (fun (m29, x27) => m29) (n, a2) h (Sub_cons rfl (Sub_nil)) (ks := [0, 1]) rfl (by decide) ?_
    rintro ⟨m29, x27⟩ h
    replace h : loop1 lb28 m29 x27 = some r := h
    replace h := lp1_s hlb28 h
    obtain ⟨m29, rfl, h⟩ := h
    refine WP_seq ?_
    refine WP_seq ?_
    refine WP_region ?_
    refine WL_v rfl (VS_move rfl) ?_
    refine WL_v rfl (VS_neq rfl rfl) ?_
    refine WL_nil ?_
    refine WQ_then ?_
    refine WP_if rfl (fun hc => ?_) (fun hc => ?_)
    ·
      replace h := cn_t hc h
      refine WP_skip ?_
      refine WQ_then ?_
      refine WP_seq ?_
      refine WP_block ?_
      refine WP_seq ?_
      refine WP_region ?_
      refine WL_v rfl (VS_move rfl) ?_
      refine WL_v rfl (VS_move rfl) ?_
      refine WL_v rfl (VS_eql rfl rfl) ?_
      refine WL_nil ?_
      refine WQ_then ?_
      refine WP_if rfl (fun hc => ?_) (fun hc => ?_)
      ·
        replace h := cn_t hc h
        refine WP_seq ?_
        refine WP_region ?_
        refine WL_v rfl (VS_loadall rfl (Lay.len _ f0)) ?_
        obtain ⟨c31, hc31, f32⟩ : ∃ cc, splice zc_table_Table 0 cs0 = cc ∧ (L_table_Table).rep K cc a0 := ⟨_, rfl, (Pth.id (L := L_table_Table)).set (Lay.mono _ ent (show (L_table_Table).rep (Hs []) zc_table_Table Z_table_Table from zr_table_Table)) (Lay.mono _ ent f0)⟩
        refine WL_x0 (RX_stN cs0 (Pth.id (L := L_table_Table)) (v := a0) (r := (show (L_table_Table).rep (Hs []) zc_table_Table Z_table_Table from zr_table_Table)) (rv := ((Lay.mono _ ent f0) : (L_table_Table).rep K cs0 a0)) rfl rfl rfl rfl hc31) (fun _ _ => ?_)
        refine WL_v rfl (VS_assign rfl) ?_
        refine WL_nil ?_
        refine WQ_then ?_
        refine WP_ret ?_
        refine WQ_block_ret ?_
        refine WQ_then_ret ?_
        refine WQ_then_ret ?_
        refine WQ_block_ret ?_
        refine WQ_then_ret ?_
        replace h := Option.some.inj h
        subst h
        refine WQ_bundle (R := []) (H' := [.cells b6 77 c31]) (ks := [0]) rfl (by decide) ?_
        have p33 : (L_table_Table).rep (fun w => K w ∧ (Hs [.ext (blks []) (Hs [])]) w) c31 a0 := Lay.mono _ ent f32
        exact WQ_ret (.tuple #[.agg c31.toArray, .int .i64 12], blks [], Hs []) rfl (.agg rfl inferInstance inferInstance (Lay.len _ f32) (.tmp rfl .nil)) ⟨_, rfl, p33⟩ rfl (ks := [0]) rfl (by decide)
      ·
        replace h := cn_f hc h
        refine WP_skip ?_
        refine WQ_block ?_
        refine WQ_then ?_
        obtain ⟨x34, hx34, h⟩ := bd_e h
        refine WP_region ?_
        refine WL_v rfl (VS_loadall rfl (Lay.len _ f0)) ?_
        refine WL_v rfl (VS_move rfl) ?_
        refine WL_v rfl (VS_call (c_table_Table_up (K := K) (Lay.mono _ ent f0) hx34) rfl kn) ?_
        refine WL_v rfl (VS_assign rfl) ?_
        refine WL_nil ?_
        exact WQ_loops (m29, x34) (Nat.lt_succ_self _) h (Sub_cons rfl (Sub_nil)) (.cons rfl (.cons rfl (.cons rfl (.cons rfl (.nil))))) (ks := [0, 1]) rfl (by decide)
    ·
      replace h := cn_f hc h
      refine WP_exit ?_
      refine WQ_then_exit ?_
      refine WQ_then_exit ?_
      refine WQ_block_exit ?_
      refine WQ_then ?_
      refine WP_seq ?_
      obtain ⟨x35, hx35, h⟩ := bd_e h
      refine WP_region ?_
      refine WL_v rfl (VS_move rfl) ?_
      refine WL_v rfl (VS_call (c_handle_Handle_Slot hx35) rfl (fun _ _ _ => trivial)) ?_
      refine WL_v rfl (VS_move rfl) ?_
      refine WL_v rfl (VS_extract rfl rfl) ?_
      refine WL_v rfl (VS_extract rfl rfl) ?_
      refine WL_v rfl (VS_assign rfl) ?_
      refine WL_v rfl (VS_assign rfl) ?_
      refine WL_nil ?_
      refine WQ_then ?_
      refine WP_seq ?_
      obtain ⟨hg36, h⟩ := gu_e h
      obtain ⟨x37, hx37, h⟩ := lt_e h
      refine WP_region ?_
      refine WL_v rfl (VS_move rfl) ?_
      refine WL_v rfl (VS_move rfl) ?_
      refine WL_v rfl (VS_field0 rfl) ?_
      refine WL_v rfl (VS_index (m := (Int.toNat x35.1)) rfl rfl (inb_e hg36).1 (inb_e hg36).2) ?_
      refine WL_v rfl (VS_field rfl) ?_
      obtain ⟨c38, hc38, f39⟩ : ∃ cc, splice cs0 ((96 + (Int.toNat x35.1) * 12) + 0) ((LI .u32).enc a2) = cc ∧ (L_table_Table).rep K cc x37 := ⟨_, rfl, by rw [hx37]; exact ((P_table_Table_regions.comp (Pth.idx (L := L_table_Region) (m := 32) (k := 12) ((Int.toNat x35.1)) (inb_e hg36).2 rfl)).comp P_table_Region_Up).set (Lay.mono _ ent f0) (FlatL.iff.2 rfl)⟩
      refine WL_x0 (RX_stN ((LI .u32).enc a2) ((P_table_Table_regions.comp (Pth.idx (L := L_table_Region) (m := 32) (k := 12) ((Int.toNat x35.1)) (inb_e hg36).2 rfl)).comp P_table_Region_Up) (v := a2) (r := f0) (rv := ((FlatL.iff.2 rfl) : ((LI .u32)).rep K ((LI .u32).enc a2) a2)) rfl rfl rfl rfl hc38) (fun _ _ => ?_)
      refine WL_nil ?_
      refine WQ_then ?_
      refine WP_seq ?_
      refine WP_region ?_
      refine WL_v rfl (VS_loadall rfl (Lay.len _ f39)) ?_
      obtain ⟨c40, hc40, f41⟩ : ∃ cc, splice zc_table_Table 0 c38 = cc ∧ (L_table_Table).rep K cc x37 := ⟨_, rfl, (Pth.id (L := L_table_Table)).set (Lay.mono _ ent (show (L_table_Table).rep (Hs []) zc_table_Table Z_table_Table from zr_table_Table)) (Lay.mono _ ent f39)⟩
      refine WL_x0 (RX_stN c38 (Pth.id (L := L_table_Table)) (v := x37) (r := (show (L_table_Table).rep (Hs []) zc_table_Table Z_table_Table from zr_table_Table)) (rv := ((Lay.mono _ ent f39) : (L_table_Table).rep K c38 x37)) rfl rfl rfl rfl hc40) (fun _ _ => ?_)
      refine WL_v rfl (VS_assign rfl) ?_
      refine WL_nil ?_
      refine WQ_then ?_
      refine WP_ret ?_
      replace h := Option.some.inj h
      subst h
      refine WQ_bundle (R := []) (H' := [.cells b6 77 c40]) (ks := [0]) rfl (by decide) ?_
      have p42 : (L_table_Table).rep (fun w => K w ∧ (Hs [.ext (blks []) (Hs [])]) w) c40 x37 := Lay.mono _ ent f41
      exact WQ_ret (.tuple #[.agg c40.toArray, .int .i64 0], blks [], Hs []) rfl (.agg rfl inferInstance inferInstance (Lay.len _ f41) (.tmp rfl .nil)) ⟨_, rfl, p42⟩ rfl (ks := [0]) rfl (by decide)
def table_Table_Set (n : Nat) (a0 : table_Table) (a1 : Int) (a2 : table_Region) : Option (table_Table × Int) :=
  bd (handle_Book_Good n a0.book.Book a1) fun x21 =>
  cn ((!x21)) (
  some (a0, 4)) (
  bd (table_quota n a2.Quota) fun x25 =>
  cl ((!x25) == false) (extent_Extent_May n a2.E) default fun x28 =>
  cn (((!x25) || (!x28))) (
  some (a0, 2)) (
  bd (handle_Handle_Slot n a1) fun x32 =>
  gu (inb x32.1 32) <|
  lt ({ a2 with Up := (a0.regions (Int.toNat x32.1)).Up } : table_Region) fun x34 =>
  gu (inb x32.1 32) <|
  lt ({ a0 with regions := (upd a0.regions (Int.toNat x32.1) x34) } : table_Table) fun x38 =>
  some (x38, 0)))
theorem c_table_Table_Set {n : Nat} {a0 : table_Table} {a1 : Int} {a2 : table_Region} {r : table_Table × Int} {K : World → Prop} [Stable K] {cs0 : List Value} (f0 : (L_table_Table).rep K cs0 a0) {cs2 : List Value} (f2 : (L_table_Region).rep K cs2 a2) (h : table_Table_Set n a0 a1 a2 = some r) : FnB Try.prog 34 [.agg cs0.toArray, .int .u32 a1, .agg cs2.toArray] K (fun J v => ∃ u0, v = (.tuple #[.agg u0.toArray, .int .i64 r.2]) ∧ (L_table_Table).rep (fun w => K w ∧ J w) u0 (r.1)) := by
  unfold table_Table_Set at h
  refine fn_of Try.func34 (by kernel_rfl) rfl Try.ntmps34 rfl (fun cx hbs hpre hro => ?_)
  haveI := knf_pre hbs hpre
  refine WP_seq ?_
  refine WP_region ?_
  refine WL_x rfl (RX_boxa rfl) (fun b3 _ => ?_)
  refine WL_x rfl (RX_boxa rfl) (fun b5 _ => ?_)
  refine WL_x rfl (RX_alloc (hz := (⟨by kernel_rfl⟩ : TZero Try.prog 77 zc_table_Table))) (fun b6 _ => ?_)
  refine WL_v rfl (VS_assign rfl) ?_
  refine WL_nil ?_
  refine WQ_then ?_
  refine WP_seq ?_
  refine WP_block ?_
  refine WP_seq ?_
  obtain ⟨x21, hx21, h⟩ := bd_e h
  refine WP_region ?_
  refine WL_v rfl (VS_field0 rfl) ?_
  refine WL_v rfl (VS_field0 rfl) ?_
  refine WL_v rfl (VS_loadpart rfl (FlatL.iff.1 ((P_table_Table_book.c0 P_table_book_Book).get f0)) (enc_len _ _)) ?_
  refine WL_v rfl (VS_move rfl) ?_
  refine WL_v rfl (VS_call (c_handle_Book_Good hx21) rfl (fun _ _ _ => trivial)) ?_
  refine WL_v rfl (VS_not rfl) ?_
  refine WL_v rfl (VS_assign rfl) ?_
  refine WL_nil ?_
  refine WQ_then ?_
  refine WP_if rfl (fun hc => ?_) (fun hc => ?_)
  ·
    replace h := cn_t hc h
    refine WP_seq ?_
    refine WP_region ?_
    refine WL_v rfl (VS_loadall rfl (Lay.len _ f0)) ?_
    obtain ⟨c22, hc22, f23⟩ : ∃ cc, splice zc_table_Table 0 cs0 = cc ∧ (L_table_Table).rep K cc a0 := ⟨_, rfl, (Pth.id (L := L_table_Table)).set (Lay.mono _ ent (show (L_table_Table).rep (Hs []) zc_table_Table Z_table_Table from zr_table_Table)) (Lay.mono _ ent f0)⟩
    refine WL_x0 (RX_stN cs0 (Pth.id (L := L_table_Table)) (v := a0) (r := (show (L_table_Table).rep (Hs []) zc_table_Table Z_table_Table from zr_table_Table)) (rv := ((Lay.mono _ ent f0) : (L_table_Table).rep K cs0 a0)) rfl rfl rfl rfl hc22) (fun _ _ => ?_)
    refine WL_v rfl (VS_assign rfl) ?_
    refine WL_nil ?_
    refine WQ_then ?_
    refine WP_ret ?_
    refine WQ_block_ret ?_
    refine WQ_then_ret ?_
    replace h := Option.some.inj h
    subst h
    refine WQ_bundle (R := []) (H' := [.cells b6 77 c22]) (ks := [0]) rfl (by decide) ?_
    have p24 : (L_table_Table).rep (fun w => K w ∧ (Hs [.ext (blks []) (Hs [])]) w) c22 a0 := Lay.mono _ ent f23
    exact WQ_ret (.tuple #[.agg c22.toArray, .int .i64 4], blks [], Hs []) rfl (.agg rfl inferInstance inferInstance (Lay.len _ f23) (.tmp rfl .nil)) ⟨_, rfl, p24⟩ rfl (ks := [0]) rfl (by decide)
  ·
    replace h := cn_f hc h
    refine WP_seq ?_
    obtain ⟨x25, hx25, h⟩ := bd_e h
    obtain ⟨x28, hx28, _, h⟩ := cl_e h
    refine WP_region ?_
    refine WL_v rfl (VS_field0 rfl) ?_
    refine WL_v rfl (VS_load rfl (P_table_Region_Quota.int f2)) ?_
    refine WL_v rfl (VS_call (c_table_quota hx25) rfl (fun _ _ _ => trivial)) ?_
    refine WL_v rfl (VS_not rfl) ?_
    refine WL_v rfl (VS_move rfl) ?_
    refine WL_g (Gd_b rfl rfl) rfl (fun hb => VS_field0 rfl) ?_
    obtain ⟨c26, hc26, f27⟩ := rep_ex (P_table_Region_E.get f2)
    refine WL_g (Gd_b rfl rfl) rfl (fun hb => VS_loadpart (gev rfl hb) hc26 (Lay.len _ f27)) ?_
    refine WL_g (Gd_b rfl rfl) rfl (fun hb => VS_call (c_extent_Extent_May (K := K) (Lay.mono _ ent f27) (hx28 hb)) (evs_cons (gev rfl hb) rfl) kn) ?_
    refine WL_g (Gd_b rfl rfl) rfl (fun hb => VS_not (gev rfl hb)) ?_
    refine WL_v rfl (VS_or rfl rfl) ?_
    refine WL_v rfl (VS_assign rfl) ?_
    refine WL_nil ?_
    refine WQ_then ?_
    refine WP_if rfl (fun hc => ?_) (fun hc => ?_)
    ·
      replace h := cn_t hc h
      refine WP_seq ?_
      refine WP_region ?_
      refine WL_v rfl (VS_loadall rfl (Lay.len _ f0)) ?_
      obtain ⟨c29, hc29, f30⟩ : ∃ cc, splice zc_table_Table 0 cs0 = cc ∧ (L_table_Table).rep K cc a0 := ⟨_, rfl, (Pth.id (L := L_table_Table)).set (Lay.mono _ ent (show (L_table_Table).rep (Hs []) zc_table_Table Z_table_Table from zr_table_Table)) (Lay.mono _ ent f0)⟩
      refine WL_x0 (RX_stN cs0 (Pth.id (L := L_table_Table)) (v := a0) (r := (show (L_table_Table).rep (Hs []) zc_table_Table Z_table_Table from zr_table_Table)) (rv := ((Lay.mono _ ent f0) : (L_table_Table).rep K cs0 a0)) rfl rfl rfl rfl hc29) (fun _ _ => ?_)
      refine WL_v rfl (VS_assign rfl) ?_
      refine WL_nil ?_
      refine WQ_then ?_
      refine WP_ret ?_
      refine WQ_block_ret ?_
      refine WQ_then_ret ?_
      replace h := Option.some.inj h
      subst h
      refine WQ_bundle (R := []) (H' := [.cells b6 77 c29]) (ks := [0]) rfl (by decide) ?_
      have p31 : (L_table_Table).rep (fun w => K w ∧ (Hs [.ext (blks []) (Hs [])]) w) c29 a0 := Lay.mono _ ent f30
      exact WQ_ret (.tuple #[.agg c29.toArray, .int .i64 2], blks [], Hs []) rfl (.agg rfl inferInstance inferInstance (Lay.len _ f30) (.tmp rfl .nil)) ⟨_, rfl, p31⟩ rfl (ks := [0]) rfl (by decide)
    ·
      replace h := cn_f hc h
      refine WP_skip ?_
      refine WQ_block ?_
      refine WQ_then ?_
      refine WP_seq ?_
      obtain ⟨x32, hx32, h⟩ := bd_e h
      refine WP_region ?_
      refine WL_v rfl (VS_move rfl) ?_
      refine WL_v rfl (VS_call (c_handle_Handle_Slot hx32) rfl (fun _ _ _ => trivial)) ?_
      refine WL_v rfl (VS_move rfl) ?_
      refine WL_v rfl (VS_extract rfl rfl) ?_
      refine WL_v rfl (VS_extract rfl rfl) ?_
      refine WL_v rfl (VS_assign rfl) ?_
      refine WL_v rfl (VS_assign rfl) ?_
      refine WL_nil ?_
      refine WQ_then ?_
      refine WP_seq ?_
      obtain ⟨hg33, h⟩ := gu_e h
      obtain ⟨x34, hx34, h⟩ := lt_e h
      refine WP_region ?_
      refine WL_v rfl (VS_move rfl) ?_
      refine WL_v rfl (VS_field0 rfl) ?_
      refine WL_v rfl (VS_index (m := (Int.toNat x32.1)) rfl rfl (inb_e hg33).1 (inb_e hg33).2) ?_
      refine WL_v rfl (VS_field rfl) ?_
      refine WL_v rfl (VS_load rfl (((P_table_Table_regions.comp (Pth.idx (L := L_table_Region) (m := 32) (k := 12) ((Int.toNat x32.1)) (inb_e hg33).2 rfl)).comp P_table_Region_Up).int f0)) ?_
      refine WL_v rfl (VS_field0 rfl) ?_
      obtain ⟨c35, hc35, f36⟩ : ∃ cc, splice cs2 0 ((LI .u32).enc ((a0.regions (Int.toNat x32.1)).Up)) = cc ∧ (L_table_Region).rep K cc x34 := ⟨_, rfl, by rw [hx34]; exact P_table_Region_Up.set (Lay.mono _ ent f2) (FlatL.iff.2 rfl)⟩
      refine WL_x0 (RX_stN ((LI .u32).enc ((a0.regions (Int.toNat x32.1)).Up)) P_table_Region_Up (v := (a0.regions (Int.toNat x32.1)).Up) (r := f2) (rv := ((FlatL.iff.2 rfl) : ((LI .u32)).rep K ((LI .u32).enc ((a0.regions (Int.toNat x32.1)).Up)) ((a0.regions (Int.toNat x32.1)).Up))) rfl rfl rfl rfl hc35) (fun _ _ => ?_)
      refine WL_nil ?_
      refine WQ_then ?_
      refine WP_seq ?_
      obtain ⟨hg37, h⟩ := gu_e h
      obtain ⟨x38, hx38, h⟩ := lt_e h
      refine WP_region ?_
      refine WL_v rfl (VS_move rfl) ?_
      refine WL_v rfl (VS_loadall rfl (Lay.len _ f36)) ?_
      refine WL_v rfl (VS_field0 rfl) ?_
      refine WL_v rfl (VS_index (m := (Int.toNat x32.1)) rfl rfl (inb_e hg37).1 (inb_e hg37).2) ?_
      obtain ⟨c39, hc39, f40⟩ : ∃ cc, splice cs0 (96 + (Int.toNat x32.1) * 12) c35 = cc ∧ (L_table_Table).rep K cc x38 := ⟨_, rfl, by rw [hx38]; exact (P_table_Table_regions.comp (Pth.idx (L := L_table_Region) (m := 32) (k := 12) ((Int.toNat x32.1)) (inb_e hg37).2 rfl)).set (Lay.mono _ ent f0) (Lay.mono _ ent f36)⟩
      refine WL_x0 (RX_stN c35 (P_table_Table_regions.comp (Pth.idx (L := L_table_Region) (m := 32) (k := 12) ((Int.toNat x32.1)) (inb_e hg37).2 rfl)) (v := x34) (r := f0) (rv := ((Lay.mono _ ent f36) : (L_table_Region).rep K c35 x34)) rfl rfl rfl rfl hc39) (fun _ _ => ?_)
      refine WL_nil ?_
      refine WQ_then ?_
      refine WP_seq ?_
      refine WP_region ?_
      refine WL_v rfl (VS_loadall rfl (Lay.len _ f40)) ?_
      obtain ⟨c41, hc41, f42⟩ : ∃ cc, splice zc_table_Table 0 c39 = cc ∧ (L_table_Table).rep K cc x38 := ⟨_, rfl, (Pth.id (L := L_table_Table)).set (Lay.mono _ ent (show (L_table_Table).rep (Hs []) zc_table_Table Z_table_Table from zr_table_Table)) (Lay.mono _ ent f40)⟩
      refine WL_x0 (RX_stN c39 (Pth.id (L := L_table_Table)) (v := x38) (r := (show (L_table_Table).rep (Hs []) zc_table_Table Z_table_Table from zr_table_Table)) (rv := ((Lay.mono _ ent f40) : (L_table_Table).rep K c39 x38)) rfl rfl rfl rfl hc41) (fun _ _ => ?_)
      refine WL_v rfl (VS_assign rfl) ?_
      refine WL_nil ?_
      refine WQ_then ?_
      refine WP_ret ?_
      replace h := Option.some.inj h
      subst h
      refine WQ_bundle (R := []) (H' := [.cells b6 77 c41]) (ks := [0]) rfl (by decide) ?_
      have p43 : (L_table_Table).rep (fun w => K w ∧ (Hs [.ext (blks []) (Hs [])]) w) c41 x38 := Lay.mono _ ent f42
      exact WQ_ret (.tuple #[.agg c41.toArray, .int .i64 0], blks [], Hs []) rfl (.agg rfl inferInstance inferInstance (Lay.len _ f42) (.tmp rfl .nil)) ⟨_, rfl, p43⟩ rfl (ks := [0]) rfl (by decide)
def law05_Region (n : Nat) (a0 : ref05_Region) : Option table_Region :=
  bd (law04_Of n a0.E) fun x23 =>
  lt ({ Up := wr .u32 a0.Up, Quota := a0.Quota, E := x23, Cells := (fun _ => 0) } : table_Region) fun x30 =>
  loop2 (fun k50 (x44 : Int) (x45 : table_Region) =>
  cn (decide (x44 < 8)) (
  gu (inb x44 8) <|
  gu (inb x44 8) <|
  lt ({ x45 with Cells := (upd x45.Cells (Int.toNat x44) (wr .u32 (a0.Cells (Int.toNat x44)))) } : table_Region) fun x53 =>
  k50 (wr .i64 (x44 + 1)) x53) (
  some x45)) n 0 x30
theorem c_law05_Region {n : Nat} {a0 : ref05_Region} {r : table_Region} {K : World → Prop} [Stable K] {cs0 : List Value} (f0 : (L_ref05_Region).rep K cs0 a0) (h : law05_Region n a0 = some r) : FnB Try.prog 35 [.agg cs0.toArray] K (fun J v => ∃ u0, v = (.agg u0.toArray) ∧ (L_table_Region).rep (fun w => K w ∧ J w) u0 (r)) := by
  unfold law05_Region at h
  refine fn_of Try.func35 (by kernel_rfl) rfl Try.ntmps35 rfl (fun cx hbs hpre hro => ?_)
  haveI := knf_pre hbs hpre
  refine WP_seq ?_
  refine WP_region ?_
  refine WL_x rfl (RX_boxa rfl) (fun b1 _ => ?_)
  refine WL_x rfl (RX_alloc (hz := (⟨by kernel_rfl⟩ : TZero Try.prog 74 zc_table_Region))) (fun b2 _ => ?_)
  refine WL_nil ?_
  refine WQ_then ?_
  obtain ⟨x23, hx23, h⟩ := bd_e h
  obtain ⟨x30, hx30, h⟩ := lt_e h
  refine WP_cuts (α := (List Value) × (List Value) × (List Nat) × (World → Prop) × (List Value) × Nat × (List Value)) [1, 2] (.cons rfl (.cons rfl (.nil))) (fun (c21, c29, bs25, J26, c31, b3, c33) => [(3, Ptr b3 0)]) (fun (c21, c29, bs25, J26, c31, b3, c33) => [.cells b3 74 c33, .ext bs25 J26, .cells b2 74 zc_table_Region, .cells b1 83 cs0]) (fun (c21, c29, bs25, J26, c31, b3, c33) => (L_ref04_Extent).rep K c21 a0.E ∧ (L_extent_Extent).rep (fun w => K w ∧ Hs [.ext bs25 J26] w) c29 x23 ∧ (L_table_Region).rep (fun w => K w ∧ Hs [.ext bs25 J26] w) c31 x30 ∧ (L_table_Region).rep (fun w => K w ∧ Hs [.ext bs25 J26] w) c33 x30) ?_ ?_
  ·
    refine WP_draw mixed (.stg [] [(0, [1]), (1, [5]), (2, [6]), (3, [1]), (4, [8]), (5, [1]), (6, [10])] (.alt 7 [11] (.stg [(0, [1]), (1, [5]), (2, [6]), (3, [1]), (4, [8])] [(8, [7, 9, 12])] (.alt 9 [] (.stg [(0, [1]), (1, [5]), (2, [6]), (3, [1]), (4, [8]), (8, [7, 9, 12])] [] (.alt 10 [3, 13] (.fin [] []) .no)) .no)) (.alt 9 [] (.stg [(0, [1]), (1, [5]), (2, [6]), (3, [1]), (4, [8]), (5, [1]), (6, [10])] [] (.alt 7 [11] (.stg [(0, [1]), (1, [5]), (2, [6]), (3, [1]), (4, [8])] [(8, [7, 9, 12])] (.alt 10 [3, 13] (.fin [] []) .no)) .no)) .no))) (by kernel_rfl) ?_
    refine Stg_stg ?_ ?_
    · exact ReOk_nil
    refine NewOk_cons rfl rfl (VG_v rfl (VS_field0 rfl)) ?_
    refine NewOk_cons rfl rfl (VG_v rfl (VS_load rfl (P_ref05_Region_Up.int f0))) ?_
    refine NewOk_cons rfl rfl (VG_v rfl (VS_conv rfl rfl)) ?_
    refine NewOk_cons rfl rfl (VG_v rfl (VS_field0 rfl)) ?_
    refine NewOk_cons rfl rfl (VG_v rfl (VS_load rfl (P_ref05_Region_Quota.int f0))) ?_
    refine NewOk_cons rfl rfl (VG_v rfl (VS_field0 rfl)) ?_
    obtain ⟨c21, hc21, f22⟩ := rep_ex (P_ref05_Region_E.get f0)
    refine NewOk_cons rfl rfl (VG_v rfl (VS_loadpart rfl hc21 (Lay.len _ f22))) ?_
    refine NewOk_nil ?_
    refine Stg_some rfl rfl (RG_x rfl (RX_callB (c_law04_Of (K := K) (Lay.mono _ ent f22) hx23) rfl)) (fun ⟨w24, bs25, J26⟩ hp27 => ?_) ?_
    ·
      obtain ⟨c29, rfl, f28⟩ := hp27
      replace f28 : L_extent_Extent.rep (fun w => K w ∧ Hs [.ext bs25 J26] w) c29 x23 := f28
      refine Stg_stg ?_ ?_
      ·
        refine ReOk_cons rfl rfl (VG_v rfl (VS_field0 rfl)) ?_
        refine ReOk_cons rfl rfl (VG_v rfl (VS_val (VS_load rfl (P_ref05_Region_Up.int f0)) rfl)) ?_
        refine ReOk_cons rfl rfl (VG_v rfl (VS_val (VS_conv rfl rfl) rfl)) ?_
        refine ReOk_cons rfl rfl (VG_v rfl (VS_field0 rfl)) ?_
        refine ReOk_cons rfl rfl (VG_v rfl (VS_val (VS_load rfl (P_ref05_Region_Quota.int f0)) rfl)) ?_
        exact ReOk_nil
      obtain ⟨c31, hc31, f32⟩ : ∃ cc, (((LI .u32).enc (wr .u32 a0.Up)) ++ (((LI .i64).enc a0.Quota) ++ (c29 ++ ((LA (LI .u32) 8).enc (fun _ => 0))))) = cc ∧ (L_table_Region).rep (fun w => K w ∧ Hs [.ext bs25 J26] w) cc x30 := ⟨_, rfl, by rw [hx30]; exact ⟨_, _, rfl, (FlatL.iff.2 rfl), ⟨_, _, rfl, (FlatL.iff.2 rfl), ⟨_, _, rfl, (Lay.mono _ ent f28), (FlatL.iff.2 rfl)⟩⟩⟩⟩
      refine NewOk_cons rfl rfl (VG_v rfl (VS_build (cs := c31) rfl (by rw [← hc31]; first | rfl | (simp [fillL, splice, show ∀ k i, (Value.int k i).cells = #[Value.int k i] from fun _ _ => rfl, show ∀ q, (Value.bool q).cells = #[Value.bool q] from fun _ => rfl, show ∀ a, (Value.agg a).cells = a from fun _ => rfl, (show c29.length = 2 from Lay.len _ f28)]; try rfl)))) ?_
      refine NewOk_nil ?_
      refine Stg_some rfl rfl (RG_x rfl (RX_alloc (hz := (⟨by kernel_rfl⟩ : TZero Try.prog 74 zc_table_Region)))) (fun b3 _ => ?_) Stg_no
      refine Stg_stg ?_ ?_
      ·
        refine ReOk_cons rfl rfl (VG_v rfl (VS_field0 rfl)) ?_
        refine ReOk_cons rfl rfl (VG_v rfl (VS_val (VS_load rfl (P_ref05_Region_Up.int f0)) rfl)) ?_
        refine ReOk_cons rfl rfl (VG_v rfl (VS_val (VS_conv rfl rfl) rfl)) ?_
        refine ReOk_cons rfl rfl (VG_v rfl (VS_field0 rfl)) ?_
        refine ReOk_cons rfl rfl (VG_v rfl (VS_val (VS_load rfl (P_ref05_Region_Quota.int f0)) rfl)) ?_
        refine ReOk_cons rfl rfl (VG_v rfl (VS_val (VS_build (cs := c31) rfl (by rw [← hc31]; first | rfl | (simp [fillL, splice, show ∀ k i, (Value.int k i).cells = #[Value.int k i] from fun _ _ => rfl, show ∀ q, (Value.bool q).cells = #[Value.bool q] from fun _ => rfl, show ∀ a, (Value.agg a).cells = a from fun _ => rfl, (show c29.length = 2 from Lay.len _ f28)]; try rfl))) rfl)) ?_
        exact ReOk_nil
      refine NewOk_nil ?_
      obtain ⟨c33, hc33, f34⟩ : ∃ cc, splice zc_table_Region 0 c31 = cc ∧ (L_table_Region).rep (fun w => K w ∧ Hs [.ext bs25 J26] w) cc x30 := ⟨_, rfl, (Pth.id (L := L_table_Region)).set (Lay.mono _ ent (show (L_table_Region).rep (Hs []) zc_table_Region Z_table_Region from zr_table_Region)) (Lay.mono _ ent f32)⟩
      refine Stg_none rfl (RG_x rfl (RX_stN c31 (Pth.id (L := L_table_Region)) (v := x30) (r := (show (L_table_Region).rep (Hs []) zc_table_Region Z_table_Region from zr_table_Region)) (rv := ((Lay.mono _ ent f32) : (L_table_Region).rep (fun w => K w ∧ Hs [.ext bs25 J26] w) c31 x30)) rfl rfl rfl rfl hc33)) (fun _ _ => ?_) Stg_no
      refine Stg_fin ?_ ?_
      · exact ReOk_nil
      refine NewOk_nil ?_
      exact WQ_cuts (c21, c29, bs25, J26, c31, b3, c33) ⟨f22, f28, f32, f34⟩ (Sub_cons rfl (Sub_nil)) (.cons rfl (.cons rfl (.nil))) (ks := [0, 1, 2, 3]) rfl (by decide)
    refine Stg_some rfl rfl (RG_x rfl (RX_alloc (hz := (⟨by kernel_rfl⟩ : TZero Try.prog 74 zc_table_Region)))) (fun b3 _ => ?_) ?_
    ·
      refine Stg_stg ?_ ?_
      ·
        refine ReOk_cons rfl rfl (VG_v rfl (VS_field0 rfl)) ?_
        refine ReOk_cons rfl rfl (VG_v rfl (VS_val (VS_load rfl (P_ref05_Region_Up.int f0)) rfl)) ?_
        refine ReOk_cons rfl rfl (VG_v rfl (VS_val (VS_conv rfl rfl) rfl)) ?_
        refine ReOk_cons rfl rfl (VG_v rfl (VS_field0 rfl)) ?_
        refine ReOk_cons rfl rfl (VG_v rfl (VS_val (VS_load rfl (P_ref05_Region_Quota.int f0)) rfl)) ?_
        refine ReOk_cons rfl rfl (VG_v rfl (VS_field0 rfl)) ?_
        refine ReOk_cons rfl rfl (VG_v rfl (VS_val (VS_loadpart rfl hc21 (Lay.len _ f22)) rfl)) ?_
        exact ReOk_nil
      refine NewOk_nil ?_
      refine Stg_some rfl rfl (RG_x rfl (RX_callB (c_law04_Of (K := K) (Lay.mono _ ent f22) hx23) rfl)) (fun ⟨w24, bs25, J26⟩ hp27 => ?_) Stg_no
      obtain ⟨c29, rfl, f28⟩ := hp27
      replace f28 : L_extent_Extent.rep (fun w => K w ∧ Hs [.ext bs25 J26] w) c29 x23 := f28
      refine Stg_stg ?_ ?_
      ·
        refine ReOk_cons rfl rfl (VG_v rfl (VS_field0 rfl)) ?_
        refine ReOk_cons rfl rfl (VG_v rfl (VS_val (VS_load rfl (P_ref05_Region_Up.int f0)) rfl)) ?_
        refine ReOk_cons rfl rfl (VG_v rfl (VS_val (VS_conv rfl rfl) rfl)) ?_
        refine ReOk_cons rfl rfl (VG_v rfl (VS_field0 rfl)) ?_
        refine ReOk_cons rfl rfl (VG_v rfl (VS_val (VS_load rfl (P_ref05_Region_Quota.int f0)) rfl)) ?_
        exact ReOk_nil
      obtain ⟨c31, hc31, f32⟩ : ∃ cc, (((LI .u32).enc (wr .u32 a0.Up)) ++ (((LI .i64).enc a0.Quota) ++ (c29 ++ ((LA (LI .u32) 8).enc (fun _ => 0))))) = cc ∧ (L_table_Region).rep (fun w => K w ∧ Hs [.ext bs25 J26] w) cc x30 := ⟨_, rfl, by rw [hx30]; exact ⟨_, _, rfl, (FlatL.iff.2 rfl), ⟨_, _, rfl, (FlatL.iff.2 rfl), ⟨_, _, rfl, (Lay.mono _ ent f28), (FlatL.iff.2 rfl)⟩⟩⟩⟩
      refine NewOk_cons rfl rfl (VG_v rfl (VS_build (cs := c31) rfl (by rw [← hc31]; first | rfl | (simp [fillL, splice, show ∀ k i, (Value.int k i).cells = #[Value.int k i] from fun _ _ => rfl, show ∀ q, (Value.bool q).cells = #[Value.bool q] from fun _ => rfl, show ∀ a, (Value.agg a).cells = a from fun _ => rfl, (show c29.length = 2 from Lay.len _ f28)]; try rfl)))) ?_
      refine NewOk_nil ?_
      obtain ⟨c33, hc33, f34⟩ : ∃ cc, splice zc_table_Region 0 c31 = cc ∧ (L_table_Region).rep (fun w => K w ∧ Hs [.ext bs25 J26] w) cc x30 := ⟨_, rfl, (Pth.id (L := L_table_Region)).set (Lay.mono _ ent (show (L_table_Region).rep (Hs []) zc_table_Region Z_table_Region from zr_table_Region)) (Lay.mono _ ent f32)⟩
      refine Stg_none rfl (RG_x rfl (RX_stN c31 (Pth.id (L := L_table_Region)) (v := x30) (r := (show (L_table_Region).rep (Hs []) zc_table_Region Z_table_Region from zr_table_Region)) (rv := ((Lay.mono _ ent f32) : (L_table_Region).rep (fun w => K w ∧ Hs [.ext bs25 J26] w) c31 x30)) rfl rfl rfl rfl hc33)) (fun _ _ => ?_) Stg_no
      refine Stg_fin ?_ ?_
      · exact ReOk_nil
      refine NewOk_nil ?_
      exact WQ_cuts (c21, c29, bs25, J26, c31, b3, c33) ⟨f22, f28, f32, f34⟩ (Sub_cons rfl (Sub_nil)) (.cons rfl (.cons rfl (.nil))) (ks := [1, 0, 2, 3]) rfl (by decide)
    exact Stg_no
  ·
    rintro ⟨c21, c29, bs25, J26, c31, b3, c33⟩ ⟨f22, f28, f32, f34⟩
    refine WP_seq ?_
    refine WP_seq ?_
    refine WP_region ?_
    refine WL_v rfl (VS_assign rfl) ?_
    refine WL_nil ?_
    refine WQ_then ?_
    refine WP_block ?_
    obtain ⟨lb48, hlb48, h⟩ := lp2_i h
    refine WP_ext0 ?_
    refine WP_loops (α := Nat × Int × table_Region × (List Value) × (List Nat) × (World → Prop)) [1, 2, 3] (.cons rfl (.cons rfl (.cons rfl (.nil)))) (fun (m49, x44, x45, c46, bs42, J43) => [(4, .int .i64 x44)]) (fun (m49, x44, x45, c46, bs42, J43) => [.ext bs42 J43, .cells b3 74 c46, .ext bs25 J26, .cells b2 74 zc_table_Region, .cells b1 83 cs0]) (fun (m49, x44, x45, c46, bs42, J43) => (L_table_Region).rep (fun w => K w ∧ Hs [.ext bs25 J26, .ext bs42 J43] w) c46 x45 ∧ loop2 lb48 m49 x44 x45 = some r) (fun (m49, x44, x45, c46, bs42, J43) => m49) (n, 0, x30, c33, [], (Hs [])) ⟨(Lay.mono _ ent f34), h⟩ (Sub_cons rfl (Sub_nil)) (ks := [0, 1, 2, 3, 4]) rfl (by decide) ?_
    rintro ⟨m49, x44, x45, c46, bs42, J43⟩ ⟨f47, h⟩
    replace h : loop2 lb48 m49 x44 x45 = some r := h
    replace h := lp2_s hlb48 h
    obtain ⟨m49, rfl, h⟩ := h
    refine WP_seq ?_
    refine WP_seq ?_
    refine WP_region ?_
    refine WL_v rfl (VS_move rfl) ?_
    refine WL_v rfl (VS_lss rfl rfl) ?_
    refine WL_nil ?_
    refine WQ_then ?_
    refine WP_if rfl (fun hc => ?_) (fun hc => ?_)
    ·
      replace h := cn_t hc h
      refine WP_skip ?_
      refine WQ_then ?_
      refine WP_seq ?_
      refine WP_block ?_
      obtain ⟨hg51, h⟩ := gu_e h
      obtain ⟨hg52, h⟩ := gu_e h
      obtain ⟨x53, hx53, h⟩ := lt_e h
      refine WP_region ?_
      refine WL_v rfl (VS_move rfl) ?_
      refine WL_v rfl (VS_move rfl) ?_
      refine WL_v rfl (VS_field0 rfl) ?_
      refine WL_v rfl (VS_index (m := (Int.toNat x44)) rfl rfl (inb_e hg51).1 (inb_e hg51).2) ?_
      refine WL_v rfl (VS_load rfl ((P_ref05_Region_Cells.comp (Pth.idx (L := (LI .i64)) (m := 8) (k := 1) ((Int.toNat x44)) (inb_e hg51).2 rfl)).int f0)) ?_
      refine WL_v rfl (VS_conv rfl rfl) ?_
      refine WL_v rfl (VS_field0 rfl) ?_
      refine WL_v rfl (VS_index (m := (Int.toNat x44)) rfl rfl (inb_e hg52).1 (inb_e hg52).2) ?_
      obtain ⟨c54, hc54, f55⟩ : ∃ cc, splice c46 (4 + (Int.toNat x44) * 1) ((LI .u32).enc (wr .u32 (a0.Cells (Int.toNat x44)))) = cc ∧ (L_table_Region).rep (fun w => K w ∧ Hs [.ext bs25 J26, .ext bs42 J43] w) cc x53 := ⟨_, rfl, by rw [hx53]; exact (P_table_Region_Cells.comp (Pth.idx (L := (LI .u32)) (m := 8) (k := 1) ((Int.toNat x44)) (inb_e hg52).2 rfl)).set (Lay.mono _ ent f47) (FlatL.iff.2 rfl)⟩
      refine WL_x0 (RX_stN ((LI .u32).enc (wr .u32 (a0.Cells (Int.toNat x44)))) (P_table_Region_Cells.comp (Pth.idx (L := (LI .u32)) (m := 8) (k := 1) ((Int.toNat x44)) (inb_e hg52).2 rfl)) (v := wr .u32 (a0.Cells (Int.toNat x44))) (r := f47) (rv := ((FlatL.iff.2 rfl) : ((LI .u32)).rep (fun w => K w ∧ Hs [.ext bs25 J26, .ext bs42 J43] w) ((LI .u32).enc (wr .u32 (a0.Cells (Int.toNat x44)))) (wr .u32 (a0.Cells (Int.toNat x44))))) rfl rfl rfl rfl hc54) (fun _ _ => ?_)
      refine WL_nil ?_
      refine WQ_block ?_
      refine WQ_then ?_
      refine WP_region ?_
      refine WL_v rfl (VS_move rfl) ?_
      refine WL_v rfl (VS_add rfl rfl rfl) ?_
      refine WL_v rfl (VS_assign rfl) ?_
      refine WL_nil ?_
      refine WQ_bundle (R := [.ext bs42 J43]) (H' := [.cells b3 74 c54, .ext bs25 J26, .cells b2 74 zc_table_Region, .cells b1 83 cs0]) (ks := [0, 1, 2, 3, 4]) rfl (by decide) ?_
      exact WQ_loops (m49, wr .i64 (x44 + 1), x53, c54, (blks [.ext bs42 J43]), (Hs [.ext bs42 J43])) (Nat.lt_succ_self _) ⟨(Lay.mono _ ent f55), h⟩ (Sub_cons rfl (Sub_nil)) (.cons rfl (.cons rfl (.cons rfl (.nil)))) (ks := [0, 1, 2, 3, 4]) rfl (by decide)
    ·
      replace h := cn_f hc h
      refine WP_exit ?_
      refine WQ_then_exit ?_
      refine WQ_then_exit ?_
      refine WQ_block_exit ?_
      refine WQ_then ?_
      refine WP_seq ?_
      refine WP_region ?_
      refine WL_v rfl (VS_loadall rfl (Lay.len _ f47)) ?_
      obtain ⟨c56, hc56, f57⟩ : ∃ cc, splice zc_table_Region 0 c46 = cc ∧ (L_table_Region).rep (fun w => K w ∧ Hs [.ext bs25 J26, .ext bs42 J43] w) cc x45 := ⟨_, rfl, (Pth.id (L := L_table_Region)).set (Lay.mono _ ent (show (L_table_Region).rep (Hs []) zc_table_Region Z_table_Region from zr_table_Region)) (Lay.mono _ ent f47)⟩
      refine WL_x0 (RX_stN c46 (Pth.id (L := L_table_Region)) (v := x45) (r := (show (L_table_Region).rep (Hs []) zc_table_Region Z_table_Region from zr_table_Region)) (rv := ((Lay.mono _ ent f47) : (L_table_Region).rep (fun w => K w ∧ Hs [.ext bs25 J26, .ext bs42 J43] w) c46 x45)) rfl rfl rfl rfl hc56) (fun _ _ => ?_)
      refine WL_nil ?_
      refine WQ_then ?_
      refine WP_ret ?_
      replace h := Option.some.inj h
      subst h
      refine WQ_bundle (R := [.ext bs42 J43, .ext bs25 J26]) (H' := [.cells b2 74 c56]) (ks := [0, 2, 3]) rfl (by decide) ?_
      have p58 : (L_table_Region).rep (fun w => K w ∧ (Hs [.ext (blks [.ext bs42 J43, .ext bs25 J26]) (Hs [.ext bs42 J43, .ext bs25 J26])]) w) c56 x45 := Lay.mono _ ent f57
      exact WQ_ret (.agg c56.toArray, blks [.ext bs42 J43, .ext bs25 J26], Hs [.ext bs42 J43, .ext bs25 J26]) rfl (.agg rfl inferInstance inferInstance (Lay.len _ f57) .nil) ⟨_, rfl, p58⟩ rfl (ks := [0]) rfl (by decide)
def law05_name (n : Nat) (a0 : ref05_Table) (a1 : Int) : Option Int :=
  gu (!((decide (1 ≤ a1) && decide (a1 ≤ 32)) == true) || inb (wr .u32 (a1 - 1)) 32) <|
  cn (((decide (1 ≤ a1) && decide (a1 ≤ 32)) && ((a0.B.Is (Int.toNat (wr .u32 (a1 - 1)))) == 1))) (
  bd (ref03_Book_Of n a0.B (wr .i64 (wr .u32 (a1 - 1)))) fun x22 =>
  some x22) (
  some (wr .i64 a1))
theorem c_law05_name {n : Nat} {a0 : ref05_Table} {a1 : Int} {r : Int} {K : World → Prop} [Stable K] {cs0 : List Value} (f0 : (L_ref05_Table).rep K cs0 a0) (h : law05_name n a0 a1 = some r) : FnW Try.prog 109 [.agg cs0.toArray, .int .u32 a1] K (.int .i64 r) := by
  unfold law05_name at h
  refine fn_of Try.func109 (by kernel_rfl) rfl Try.ntmps109 rfl (fun cx hbs hpre hro => ?_)
  haveI := knf_pre hbs hpre
  refine WP_seq ?_
  refine WP_region ?_
  refine WL_x rfl (RX_boxa rfl) (fun b2 _ => ?_)
  refine WL_v rfl (VS_assign rfl) ?_
  refine WL_nil ?_
  refine WQ_then ?_
  refine WP_seq ?_
  refine WP_seq ?_
  obtain ⟨hg21, h⟩ := gu_e h
  refine WP_region ?_
  refine WL_v rfl (VS_move rfl) ?_
  refine WL_v rfl (VS_geq rfl rfl) ?_
  refine WL_v rfl (VS_move rfl) ?_
  refine WL_g (Gd_b rfl rfl) rfl (fun hb => VS_move rfl) ?_
  refine WL_g (Gd_b rfl rfl) rfl (fun hb => VS_leq (gev rfl hb) rfl) ?_
  refine WL_v rfl (VS_and rfl rfl) ?_
  refine WL_v rfl (VS_move rfl) ?_
  refine WL_g (Gd_b rfl rfl) rfl (fun hb => VS_move rfl) ?_
  refine WL_g (Gd_b rfl rfl) rfl (fun hb => VS_sub (gev rfl hb) rfl rfl) ?_
  refine WL_g (Gd_b rfl rfl) rfl (fun hb => VS_field0 rfl) ?_
  refine WL_g (Gd_b rfl rfl) rfl (fun hb => VS_field0 (gev rfl hb)) ?_
  refine WL_g (Gd_b rfl rfl) rfl (fun hb => VS_index (m := (Int.toNat (wr .u32 (a1 - 1)))) (gev rfl hb) (gev rfl hb) (inb_e (imp_b hg21 hb)).1 (inb_e (imp_b hg21 hb)).2) ?_
  refine WL_g (Gd_b rfl rfl) rfl (fun hb => VS_load (gev rfl hb) (((P_ref05_Table_B.c0 P_ref03_Book_Is).comp (Pth.idx (L := (LI .i64)) (m := 32) (k := 1) ((Int.toNat (wr .u32 (a1 - 1)))) (inb_e (imp_b hg21 hb)).2 rfl)).int f0)) ?_
  refine WL_g (Gd_b rfl rfl) rfl (fun hb => VS_eql (gev rfl hb) rfl) ?_
  refine WL_v rfl (VS_and rfl rfl) ?_
  refine WL_nil ?_
  refine WQ_then ?_
  refine WP_if rfl (fun hc => ?_) (fun hc => ?_)
  ·
    replace h := cn_t hc h
    refine WP_seq ?_
    obtain ⟨x22, hx22, h⟩ := bd_e h
    refine WP_region ?_
    refine WL_v rfl (VS_field0 rfl) ?_
    refine WL_v rfl (VS_loadpart rfl (FlatL.iff.1 (P_ref05_Table_B.get f0)) (enc_len _ _)) ?_
    refine WL_v rfl (VS_move rfl) ?_
    refine WL_v rfl (VS_sub rfl rfl rfl) ?_
    refine WL_v rfl (VS_conv rfl rfl) ?_
    refine WL_v rfl (VS_call (c_ref03_Book_Of hx22) rfl (fun _ _ _ => trivial)) ?_
    refine WL_v rfl (VS_assign rfl) ?_
    refine WL_nil ?_
    refine WQ_then ?_
    refine WP_ret ?_
    refine WQ_then_ret ?_
    replace h := Option.some.inj h
    subst h
    exact WQ_ret () rfl (.tmp rfl .nil) trivial rfl (ks := []) rfl (by decide)
  ·
    replace h := cn_f hc h
    refine WP_skip ?_
    refine WQ_then ?_
    refine WP_seq ?_
    refine WP_region ?_
    refine WL_v rfl (VS_move rfl) ?_
    refine WL_v rfl (VS_conv rfl rfl) ?_
    refine WL_v rfl (VS_assign rfl) ?_
    refine WL_nil ?_
    refine WQ_then ?_
    refine WP_ret ?_
    replace h := Option.some.inj h
    subst h
    exact WQ_ret () rfl (.tmp rfl .nil) trivial rfl (ks := []) rfl (by decide)
structure law05_Act where
  Do : Int
  A : Int
  B : Int
  R : ref05_Region
abbrev L_law05_Act : Lay law05_Act := Lay.via (LP (LI .u8) (LP (LI .u32) (LP (LI .u32) L_ref05_Region))) (fun x => (x.Do, x.A, x.B, x.R))
abbrev Z_law05_Act : law05_Act := ⟨0, 0, 0, Z_ref05_Region⟩
instance : Inhabited law05_Act := ⟨Z_law05_Act⟩
def zc_law05_Act : List Value := [.int .u8 0] ++ ([.int .u32 0] ++ ([.int .u32 0] ++ (zc_ref05_Region)))
theorem zr_law05_Act {A : World → Prop} : L_law05_Act.rep A zc_law05_Act Z_law05_Act := ⟨_, _, rfl, rfl, ⟨_, _, rfl, rfl, ⟨_, _, rfl, rfl, zr_ref05_Region⟩⟩⟩
theorem P_law05_Act_Do : Pth L_law05_Act (LI .u8) 0 (fun x => x.Do) (fun x v => { x with Do := v }) := (Pth.fst Pth.id).via _ _ _ 0 rfl (fun _ => rfl) (fun _ _ => rfl)
theorem P_law05_Act_A : Pth L_law05_Act (LI .u32) 1 (fun x => x.A) (fun x v => { x with A := v }) := (Pth.snd (Pth.fst Pth.id)).via _ _ _ 1 rfl (fun _ => rfl) (fun _ _ => rfl)
theorem P_law05_Act_B : Pth L_law05_Act (LI .u32) 2 (fun x => x.B) (fun x v => { x with B := v }) := (Pth.snd (Pth.snd (Pth.fst Pth.id))).via _ _ _ 2 rfl (fun _ => rfl) (fun _ _ => rfl)
theorem P_law05_Act_R : Pth L_law05_Act L_ref05_Region 3 (fun x => x.R) (fun x v => { x with R := v }) := (Pth.snd (Pth.snd (Pth.snd Pth.id))).via _ _ _ 3 rfl (fun _ => rfl) (fun _ _ => rfl)
def law05_Does (n : Nat) (a0 : table_Table) (a1 : ref05_Table) (a2 : law05_Act) : Option (table_Table × ref05_Table × Bool) :=
  bd (law05_name n a1 a2.A) fun x21 =>
  bd (law05_name n a1 a2.B) fun x22 =>
  lt (fun (x25 : Int) (x26 : Int) (x27 : Int) (x28 : Int) (x29 : ref05_Table) (x32 : table_Table) =>
  some (x32, x29, ((x25 == x26) && ((wr .i64 x27) == x28)))) fun j35 =>
  cn ((a2.Do == 0)) (
  bd (table_Table_Drop n a0 (wr .u32 x21)) fun x36 =>
  bd (ref05_Table_Drop n a1 x21) fun x45 =>
  j35 x36.2 x45.2 0 0 x45.1 x36.1) (
  cn ((a2.Do == 1)) (
  loop2 (fun k73 (x67 : Int) (x68 : ref05_Region) =>
  cn (decide (x67 < 8)) (
  gu (inb x67 8) <|
  gu (inb x67 8) <|
  lt ({ x68 with Cells := (upd x68.Cells (Int.toNat x67) (andI .i64 (x68.Cells (Int.toNat x67)) 4294967295)) } : ref05_Region) fun x76 =>
  k73 (wr .i64 (x67 + 1)) x76) (
  lt ({ x68 with Up := 0 } : ref05_Region) fun x79 =>
  bd (law05_Region n x79) fun x82 =>
  bd (table_Table_Set n a0 (wr .u32 x21) x82) fun x89 =>
  bd (ref05_Table_Set n a1 x21 x79) fun x98 =>
  j35 x89.2 x98.2 0 0 x98.1 x89.1)) n 0 a2.R) (
  cn ((a2.Do == 2)) (
  bd (table_Table_Raise n a0 (wr .u32 x21) (wr .u32 x22)) fun x107 =>
  bd (ref05_Table_Raise n a1 x21 x22) fun x116 =>
  j35 x107.2 x116.2 0 0 x116.1 x107.1) (
  bd (table_Table_New n a0 (wr .u32 x21) a2.R.Quota) fun x125 =>
  bd (ref05_Table_New n a1 x21 a2.R.Quota) fun x134 =>
  j35 x125.2.2 x134.2.2 x125.2.1 x134.2.1 x134.1 x125.1)))
theorem c_law05_Does {n : Nat} {a0 : table_Table} {a1 : ref05_Table} {a2 : law05_Act} {r : table_Table × ref05_Table × Bool} {K : World → Prop} [Stable K] {cs0 : List Value} (f0 : (L_table_Table).rep K cs0 a0) {cs1 : List Value} (f1 : (L_ref05_Table).rep K cs1 a1) {cs2 : List Value} (f2 : (L_law05_Act).rep K cs2 a2) (h : law05_Does n a0 a1 a2 = some r) : FnB Try.prog 42 [.agg cs0.toArray, .agg cs1.toArray, .agg cs2.toArray] K (fun J v => ∃ u0 u1, v = (.tuple #[.agg u0.toArray, .agg u1.toArray, .bool r.2.2]) ∧ (L_table_Table).rep (fun w => K w ∧ J w) u0 (r.1) ∧ (L_ref05_Table).rep (fun w => K w ∧ J w) u1 (r.2.1)) := by
  unfold law05_Does at h
  refine fn_of Try.func42 (by kernel_rfl) rfl Try.ntmps42 rfl (fun cx hbs hpre hro => ?_)
  haveI := knf_pre hbs hpre
  refine WP_seq ?_
  refine WP_region ?_
  refine WL_x rfl (RX_boxa rfl) (fun b3 _ => ?_)
  refine WL_x rfl (RX_boxa rfl) (fun b4 _ => ?_)
  refine WL_x rfl (RX_boxa rfl) (fun b5 _ => ?_)
  refine WL_x rfl (RX_alloc (hz := (⟨by kernel_rfl⟩ : TZero Try.prog 77 zc_table_Table))) (fun b6 _ => ?_)
  refine WL_x rfl (RX_alloc (hz := (⟨by kernel_rfl⟩ : TZero Try.prog 105 zc_ref05_Table))) (fun b7 _ => ?_)
  refine WL_v rfl (VS_assign rfl) ?_
  refine WL_nil ?_
  refine WQ_then ?_
  refine WP_seq ?_
  obtain ⟨x21, hx21, h⟩ := bd_e h
  obtain ⟨x22, hx22, h⟩ := bd_e h
  refine WP_draw mixed (.stg [] [(0, [4]), (1, [5]), (2, [18]), (3, [17, 19]), (4, [4]), (5, [5]), (6, [22]), (7, [21, 23])] (.alt 8 [20] (.stg [] [] (.alt 9 [24] (.fin [] []) .no)) .no)) (by kernel_rfl) ?_
  refine Stg_stg ?_ ?_
  · exact ReOk_nil
  refine NewOk_cons rfl rfl (VG_v rfl (VS_loadall rfl (Lay.len _ f1))) ?_
  refine NewOk_cons rfl rfl (VG_v rfl (VS_field0 rfl)) ?_
  refine NewOk_cons rfl rfl (VG_v rfl (VS_load rfl (P_law05_Act_A.int f2))) ?_
  refine NewOk_cons rfl rfl (VG_v rfl (VS_call (c_law05_name (K := K) (Lay.mono _ ent f1) hx21) rfl kn)) ?_
  refine NewOk_cons rfl rfl (VG_v rfl (VS_loadall rfl (Lay.len _ f1))) ?_
  refine NewOk_cons rfl rfl (VG_v rfl (VS_field0 rfl)) ?_
  refine NewOk_cons rfl rfl (VG_v rfl (VS_load rfl (P_law05_Act_B.int f2))) ?_
  refine NewOk_cons rfl rfl (VG_v rfl (VS_call (c_law05_name (K := K) (Lay.mono _ ent f1) hx22) rfl kn)) ?_
  refine NewOk_nil ?_
  refine Stg_some rfl rfl (RG_x rfl ((VS_assign rfl).rx)) (fun _ _ => ?_) Stg_no
  refine Stg_stg ?_ ?_
  · exact ReOk_nil
  refine NewOk_nil ?_
  refine Stg_some rfl rfl (RG_x rfl ((VS_assign rfl).rx)) (fun _ _ => ?_) Stg_no
  refine Stg_fin ?_ ?_
  · exact ReOk_nil
  refine NewOk_nil ?_
  refine WQ_then ?_
  refine WP_seq ?_
  refine WP_region ?_
  refine WL_v rfl (VS_assign rfl) ?_
  refine WL_v rfl (VS_assign rfl) ?_
  refine WL_nil ?_
  refine WQ_then ?_
  refine WP_seq ?_
  refine WP_region ?_
  refine WL_v rfl (VS_assign rfl) ?_
  refine WL_v rfl (VS_assign rfl) ?_
  refine WL_nil ?_
  refine WQ_then ?_
  obtain ⟨j35, hj35, h⟩ := lt_e h
  refine WP_cuts (α := Int × Int × Int × Int × ref05_Table × table_Table × (List Value) × (List Value) × (List Nat) × (World → Prop)) [3, 4, 6, 7] (.cons rfl (.cons rfl (.cons rfl (.cons rfl (.nil))))) (fun (x25, x26, x27, x28, x29, x32, c30, c33, bs23, J24) => [(11, .int .i64 x25), (12, .int .i64 x26), (13, .int .u32 x27), (14, .int .i64 x28)]) (fun (x25, x26, x27, x28, x29, x32, c30, c33, bs23, J24) => [.ext bs23 J24, .cells b7 105 zc_ref05_Table, .cells b6 77 zc_table_Table, .cells b5 85 cs2, .cells b4 105 c30, .cells b3 77 c33]) (fun (x25, x26, x27, x28, x29, x32, c30, c33, bs23, J24) => (L_ref05_Table).rep (fun w => K w ∧ Hs [.ext bs23 J24] w) c30 x29 ∧ (L_table_Table).rep (fun w => K w ∧ Hs [.ext bs23 J24] w) c33 x32 ∧ j35 x25 x26 x27 x28 x29 x32 = some r) ?_ ?_
  ·
    refine WP_seq ?_
    refine WP_region ?_
    refine WL_v rfl (VS_field0 rfl) ?_
    refine WL_v rfl (VS_load rfl (P_law05_Act_Do.int f2)) ?_
    refine WL_nil ?_
    refine WQ_then ?_
    refine WP_block ?_
    refine WP_seq ?_
    refine WP_region ?_
    refine WL_v rfl (VS_eql rfl rfl) ?_
    refine WL_v rfl (VS_assign rfl) ?_
    refine WL_nil ?_
    refine WQ_then ?_
    refine WP_if rfl (fun hc => ?_) (fun hc => ?_)
    ·
      replace h := cn_t hc h
      refine WP_seq ?_
      obtain ⟨x36, hx36, h⟩ := bd_e h
      refine WP_region ?_
      refine WL_v rfl (VS_loadall rfl (Lay.len _ f0)) ?_
      refine WL_v rfl (VS_move rfl) ?_
      refine WL_v rfl (VS_conv rfl rfl) ?_
      refine WL_x rfl (RX_callB (c_table_Table_Drop (K := K) (Lay.mono _ ent f0) hx36) rfl) (fun ⟨w37, bs38, J39⟩ hp40 => ?_)
      obtain ⟨c42, rfl, f41⟩ := hp40
      replace f41 : (L_table_Table).rep (fun w => K w ∧ Hs [.ext bs38 J39] w) c42 x36.1 := f41
      refine WL_v rfl (VS_move rfl) ?_
      refine WL_v rfl (VS_extract rfl rfl) ?_
      refine WL_v rfl (VS_extract rfl rfl) ?_
      obtain ⟨c43, hc43, f44⟩ : ∃ cc, splice cs0 0 c42 = cc ∧ (L_table_Table).rep (fun w => K w ∧ Hs [.ext bs38 J39] w) cc x36.1 := ⟨_, rfl, (Pth.id (L := L_table_Table)).set (Lay.mono _ ent f0) (Lay.mono _ ent f41)⟩
      refine WL_x0 (RX_stN c42 (Pth.id (L := L_table_Table)) (v := x36.1) (r := f0) (rv := ((Lay.mono _ ent f41) : (L_table_Table).rep (fun w => K w ∧ Hs [.ext bs38 J39] w) c42 x36.1)) rfl rfl rfl rfl hc43) (fun _ _ => ?_)
      refine WL_v rfl (VS_assign rfl) ?_
      refine WL_nil ?_
      refine WQ_then ?_
      obtain ⟨x45, hx45, h⟩ := bd_e h
      refine WP_region ?_
      refine WL_v rfl (VS_loadall rfl (Lay.len _ f1)) ?_
      refine WL_v rfl (VS_move rfl) ?_
      refine WL_x rfl (RX_callB (c_ref05_Table_Drop (K := K) (Lay.mono _ ent f1) hx45) rfl) (fun ⟨w46, bs47, J48⟩ hp49 => ?_)
      obtain ⟨c51, rfl, f50⟩ := hp49
      replace f50 : (L_ref05_Table).rep (fun w => K w ∧ Hs [.ext bs47 J48] w) c51 x45.1 := f50
      refine WL_v rfl (VS_move rfl) ?_
      refine WL_v rfl (VS_extract rfl rfl) ?_
      refine WL_v rfl (VS_extract rfl rfl) ?_
      obtain ⟨c52, hc52, f53⟩ : ∃ cc, splice cs1 0 c51 = cc ∧ (L_ref05_Table).rep (fun w => K w ∧ Hs [.ext bs47 J48] w) cc x45.1 := ⟨_, rfl, (Pth.id (L := L_ref05_Table)).set (Lay.mono _ ent f1) (Lay.mono _ ent f50)⟩
      refine WL_x0 (RX_stN c51 (Pth.id (L := L_ref05_Table)) (v := x45.1) (r := f1) (rv := ((Lay.mono _ ent f50) : (L_ref05_Table).rep (fun w => K w ∧ Hs [.ext bs47 J48] w) c51 x45.1)) rfl rfl rfl rfl hc52) (fun _ _ => ?_)
      refine WL_v rfl (VS_assign rfl) ?_
      refine WL_nil ?_
      refine WQ_block ?_
      refine WQ_bundle (R := [.ext bs47 J48, .ext bs38 J39]) (H' := [.cells b7 105 zc_ref05_Table, .cells b6 77 zc_table_Table, .cells b5 85 cs2, .cells b4 105 c52, .cells b3 77 c43]) (ks := [0, 1, 2, 3, 4, 5, 6]) rfl (by decide) ?_
      exact WQ_cuts (x36.2, x45.2, 0, 0, x45.1, x36.1, c52, c43, (blks [.ext bs47 J48, .ext bs38 J39]), (Hs [.ext bs47 J48, .ext bs38 J39])) ⟨(Lay.mono _ ent f53), (Lay.mono _ ent f44), h⟩ (Sub_cons rfl (Sub_cons rfl (Sub_cons rfl (Sub_cons rfl (Sub_nil))))) (.cons rfl (.cons rfl (.cons rfl (.cons rfl (.nil))))) (ks := [0, 1, 2, 3, 4, 5]) rfl (by decide)
    ·
      replace h := cn_f hc h
      refine WP_seq ?_
      refine WP_region ?_
      refine WL_v rfl (VS_eql rfl rfl) ?_
      refine WL_v rfl (VS_assign rfl) ?_
      refine WL_nil ?_
      refine WQ_then ?_
      refine WP_if rfl (fun hc => ?_) (fun hc => ?_)
      ·
        replace h := cn_t hc h
        refine WP_seq ?_
        refine WP_region ?_
        refine WL_v rfl (VS_field0 rfl) ?_
        obtain ⟨c54, hc54, f55⟩ := rep_ex (P_law05_Act_R.get f2)
        refine WL_v rfl (VS_loadpart rfl hc54 (Lay.len _ f55)) ?_
        refine WL_x rfl (RX_alloc (hz := (⟨by kernel_rfl⟩ : TZero Try.prog 83 zc_ref05_Region))) (fun b15 _ => ?_)
        obtain ⟨c56, hc56, f57⟩ : ∃ cc, splice zc_ref05_Region 0 c54 = cc ∧ (L_ref05_Region).rep K cc a2.R := ⟨_, rfl, (Pth.id (L := L_ref05_Region)).set (Lay.mono _ ent (show (L_ref05_Region).rep (Hs []) zc_ref05_Region Z_ref05_Region from zr_ref05_Region)) (Lay.mono _ ent f55)⟩
        refine WL_x0 (RX_stN c54 (Pth.id (L := L_ref05_Region)) (v := a2.R) (r := (show (L_ref05_Region).rep (Hs []) zc_ref05_Region Z_ref05_Region from zr_ref05_Region)) (rv := ((Lay.mono _ ent f55) : (L_ref05_Region).rep K c54 a2.R)) rfl rfl rfl rfl hc56) (fun _ _ => ?_)
        refine WL_nil ?_
        refine WQ_then ?_
        refine WP_seq ?_
        refine WP_seq ?_
        refine WP_region ?_
        refine WL_v rfl (VS_assign rfl) ?_
        refine WL_nil ?_
        refine WQ_then ?_
        refine WP_block ?_
        obtain ⟨lb71, hlb71, h⟩ := lp2_i h
        refine WP_ext0 ?_
        refine WP_loops (α := Nat × Int × ref05_Region × (List Value) × (List Nat) × (World → Prop)) [3, 4, 6, 7, 9, 13, 14, 15] (.cons rfl (.cons rfl (.cons rfl (.cons rfl (.cons rfl (.cons rfl (.cons rfl (.cons rfl (.nil))))))))) (fun (m72, x67, x68, c69, bs65, J66) => [(16, .int .i64 x67)]) (fun (m72, x67, x68, c69, bs65, J66) => [.ext bs65 J66, .cells b15 83 c69, .cells b7 105 zc_ref05_Table, .cells b6 77 zc_table_Table, .cells b5 85 cs2, .cells b4 105 cs1, .cells b3 77 cs0]) (fun (m72, x67, x68, c69, bs65, J66) => (L_ref05_Region).rep (fun w => K w ∧ Hs [.ext bs65 J66] w) c69 x68 ∧ loop2 lb71 m72 x67 x68 = some r) (fun (m72, x67, x68, c69, bs65, J66) => m72) (n, 0, a2.R, c56, [], (Hs [])) ⟨(Lay.mono _ ent f57), h⟩ (Sub_cons rfl (Sub_nil)) (ks := [0, 1, 2, 3, 4, 5, 6]) rfl (by decide) ?_
        rintro ⟨m72, x67, x68, c69, bs65, J66⟩ ⟨f70, h⟩
        replace h : loop2 lb71 m72 x67 x68 = some r := h
        replace h := lp2_s hlb71 h
        obtain ⟨m72, rfl, h⟩ := h
        refine WP_seq ?_
        refine WP_seq ?_
        refine WP_region ?_
        refine WL_v rfl (VS_move rfl) ?_
        refine WL_v rfl (VS_lss rfl rfl) ?_
        refine WL_nil ?_
        refine WQ_then ?_
        refine WP_if rfl (fun hc => ?_) (fun hc => ?_)
        ·
          replace h := cn_t hc h
          refine WP_skip ?_
          refine WQ_then ?_
          refine WP_seq ?_
          refine WP_block ?_
          obtain ⟨hg74, h⟩ := gu_e h
          obtain ⟨hg75, h⟩ := gu_e h
          obtain ⟨x76, hx76, h⟩ := lt_e h
          refine WP_region ?_
          refine WL_v rfl (VS_move rfl) ?_
          refine WL_v rfl (VS_move rfl) ?_
          refine WL_v rfl (VS_field0 rfl) ?_
          refine WL_v rfl (VS_index (m := (Int.toNat x67)) rfl rfl (inb_e hg74).1 (inb_e hg74).2) ?_
          refine WL_v rfl (VS_load rfl ((P_ref05_Region_Cells.comp (Pth.idx (L := (LI .i64)) (m := 8) (k := 1) ((Int.toNat x67)) (inb_e hg74).2 rfl)).int f70)) ?_
          refine WL_v rfl (VS_andI rfl rfl) ?_
          refine WL_v rfl (VS_field0 rfl) ?_
          refine WL_v rfl (VS_index (m := (Int.toNat x67)) rfl rfl (inb_e hg75).1 (inb_e hg75).2) ?_
          obtain ⟨c77, hc77, f78⟩ : ∃ cc, splice c69 (4 + (Int.toNat x67) * 1) ((LI .i64).enc (andI .i64 (x68.Cells (Int.toNat x67)) 4294967295)) = cc ∧ (L_ref05_Region).rep (fun w => K w ∧ Hs [.ext bs65 J66] w) cc x76 := ⟨_, rfl, by rw [hx76]; exact (P_ref05_Region_Cells.comp (Pth.idx (L := (LI .i64)) (m := 8) (k := 1) ((Int.toNat x67)) (inb_e hg75).2 rfl)).set (Lay.mono _ ent f70) (FlatL.iff.2 rfl)⟩
          refine WL_x0 (RX_stN ((LI .i64).enc (andI .i64 (x68.Cells (Int.toNat x67)) 4294967295)) (P_ref05_Region_Cells.comp (Pth.idx (L := (LI .i64)) (m := 8) (k := 1) ((Int.toNat x67)) (inb_e hg75).2 rfl)) (v := andI .i64 (x68.Cells (Int.toNat x67)) 4294967295) (r := f70) (rv := ((FlatL.iff.2 rfl) : ((LI .i64)).rep (fun w => K w ∧ Hs [.ext bs65 J66] w) ((LI .i64).enc (andI .i64 (x68.Cells (Int.toNat x67)) 4294967295)) (andI .i64 (x68.Cells (Int.toNat x67)) 4294967295))) rfl rfl rfl rfl hc77) (fun _ _ => ?_)
          refine WL_nil ?_
          refine WQ_block ?_
          refine WQ_then ?_
          refine WP_region ?_
          refine WL_v rfl (VS_move rfl) ?_
          refine WL_v rfl (VS_add rfl rfl rfl) ?_
          refine WL_v rfl (VS_assign rfl) ?_
          refine WL_nil ?_
          refine WQ_bundle (R := [.ext bs65 J66]) (H' := [.cells b15 83 c77, .cells b7 105 zc_ref05_Table, .cells b6 77 zc_table_Table, .cells b5 85 cs2, .cells b4 105 cs1, .cells b3 77 cs0]) (ks := [0, 1, 2, 3, 4, 5, 6]) rfl (by decide) ?_
          exact WQ_loops (m72, wr .i64 (x67 + 1), x76, c77, (blks [.ext bs65 J66]), (Hs [.ext bs65 J66])) (Nat.lt_succ_self _) ⟨(Lay.mono _ ent f78), h⟩ (Sub_cons rfl (Sub_nil)) (.cons rfl (.cons rfl (.cons rfl (.cons rfl (.cons rfl (.cons rfl (.cons rfl (.cons rfl (.nil))))))))) (ks := [0, 1, 2, 3, 4, 5, 6]) rfl (by decide)
        ·
          replace h := cn_f hc h
          refine WP_exit ?_
          refine WQ_then_exit ?_
          refine WQ_then_exit ?_
          refine WQ_block_exit ?_
          refine WQ_then ?_
          refine WP_seq ?_
          obtain ⟨x79, hx79, h⟩ := lt_e h
          refine WP_region ?_
          refine WL_v rfl (VS_field0 rfl) ?_
          obtain ⟨c80, hc80, f81⟩ : ∃ cc, splice c69 0 ((LI .i64).enc 0) = cc ∧ (L_ref05_Region).rep (fun w => K w ∧ Hs [.ext bs65 J66] w) cc x79 := ⟨_, rfl, by rw [hx79]; exact P_ref05_Region_Up.set (Lay.mono _ ent f70) (FlatL.iff.2 rfl)⟩
          refine WL_x0 (RX_stN ((LI .i64).enc 0) P_ref05_Region_Up (v := 0) (r := f70) (rv := ((FlatL.iff.2 rfl) : ((LI .i64)).rep (fun w => K w ∧ Hs [.ext bs65 J66] w) ((LI .i64).enc 0) 0)) rfl rfl rfl rfl hc80) (fun _ _ => ?_)
          refine WL_nil ?_
          refine WQ_then ?_
          refine WP_seq ?_
          obtain ⟨x82, hx82, h⟩ := bd_e h
          obtain ⟨x89, hx89, h⟩ := bd_e h
          refine WP_draw mixed (.stg [] [(0, [3]), (1, [9]), (2, [82]), (3, [15])] (.alt 4 [84] (.stg [(0, [3]), (1, [9]), (2, [82])] [] (.alt 5 [81, 83, 85] (.stg [] [(6, [86]), (7, [80]), (8, [80])] (.alt 9 [3, 87] (.stg [(8, [80])] [] (.alt 10 [88] (.fin [] []) .no)) .no)) .no)) .no)) (by kernel_rfl) ?_
          refine Stg_stg ?_ ?_
          · exact ReOk_nil
          refine NewOk_cons rfl rfl (VG_v rfl (VS_loadall rfl (Lay.len _ f0))) ?_
          refine NewOk_cons rfl rfl (VG_v rfl (VS_move rfl)) ?_
          refine NewOk_cons rfl rfl (VG_v rfl (VS_conv rfl rfl)) ?_
          refine NewOk_cons rfl rfl (VG_v rfl (VS_loadall rfl (Lay.len _ f81))) ?_
          refine NewOk_nil ?_
          refine Stg_some rfl rfl (RG_x rfl (RX_callB (c_law05_Region (K := (fun w => K w ∧ Hs [.ext bs65 J66] w)) (Lay.mono _ ent f81) hx82) rfl)) (fun ⟨w83, bs84, J85⟩ hp86 => ?_) Stg_no
          obtain ⟨c88, rfl, f87⟩ := hp86
          replace f87 : L_table_Region.rep (fun w => (fun w => K w ∧ Hs [.ext bs65 J66] w) w ∧ Hs [.ext bs84 J85] w) c88 x82 := f87
          refine Stg_stg ?_ ?_
          ·
            refine ReOk_cons rfl rfl (VG_v rfl (VS_val (VS_loadall rfl (Lay.len _ f0)) rfl)) ?_
            refine ReOk_cons rfl rfl (VG_v rfl (VS_move rfl)) ?_
            refine ReOk_cons rfl rfl (VG_v rfl (VS_val (VS_conv rfl rfl) rfl)) ?_
            exact ReOk_nil
          refine NewOk_nil ?_
          refine Stg_some rfl rfl (RG_x rfl (RX_callB (c_table_Table_Set (K := (fun w => K w ∧ Hs [.ext bs65 J66, .ext bs84 J85] w)) (Lay.mono _ ent f0) (Lay.mono _ ent f87) hx89) rfl)) (fun ⟨w90, bs91, J92⟩ hp93 => ?_) Stg_no
          obtain ⟨c95, rfl, f94⟩ := hp93
          replace f94 : (L_table_Table).rep (fun w => (fun w => K w ∧ Hs [.ext bs65 J66, .ext bs84 J85] w) w ∧ Hs [.ext bs91 J92] w) c95 x89.1 := f94
          refine Stg_stg ?_ ?_
          · exact ReOk_nil
          refine NewOk_cons rfl rfl (VG_v rfl (VS_move rfl)) ?_
          refine NewOk_cons rfl rfl (VG_v rfl (VS_extract rfl rfl)) ?_
          refine NewOk_cons rfl rfl (VG_v rfl (VS_extract rfl rfl)) ?_
          refine NewOk_nil ?_
          obtain ⟨c96, hc96, f97⟩ : ∃ cc, splice cs0 0 c95 = cc ∧ (L_table_Table).rep (fun w => K w ∧ Hs [.ext bs65 J66, .ext bs84 J85, .ext bs91 J92] w) cc x89.1 := ⟨_, rfl, (Pth.id (L := L_table_Table)).set (Lay.mono _ ent f0) (Lay.mono _ ent f94)⟩
          refine Stg_none rfl (RG_x rfl (RX_stN c95 (Pth.id (L := L_table_Table)) (v := x89.1) (r := f0) (rv := ((Lay.mono _ ent f94) : (L_table_Table).rep (fun w => K w ∧ Hs [.ext bs65 J66, .ext bs84 J85, .ext bs91 J92] w) c95 x89.1)) rfl rfl rfl rfl hc96)) (fun _ _ => ?_) Stg_no
          refine Stg_stg ?_ ?_
          ·
            refine ReOk_cons rfl rfl (VG_v rfl (VS_val (VS_extract rfl rfl) rfl)) ?_
            exact ReOk_nil
          refine NewOk_nil ?_
          refine Stg_some rfl rfl (RG_x rfl ((VS_assign rfl).rx)) (fun _ _ => ?_) Stg_no
          refine Stg_fin ?_ ?_
          · exact ReOk_nil
          refine NewOk_nil ?_
          refine WQ_then ?_
          obtain ⟨x98, hx98, h⟩ := bd_e h
          refine WP_region ?_
          refine WL_v rfl (VS_loadall rfl (Lay.len _ f1)) ?_
          refine WL_v rfl (VS_move rfl) ?_
          refine WL_v rfl (VS_loadall rfl (Lay.len _ f81)) ?_
          refine WL_x rfl (RX_callB (c_ref05_Table_Set (K := (fun w => K w ∧ Hs [.ext bs65 J66] w)) (Lay.mono _ ent f1) (Lay.mono _ ent f81) hx98) rfl) (fun ⟨w99, bs100, J101⟩ hp102 => ?_)
          obtain ⟨c104, rfl, f103⟩ := hp102
          replace f103 : (L_ref05_Table).rep (fun w => (fun w => K w ∧ Hs [.ext bs65 J66] w) w ∧ Hs [.ext bs100 J101] w) c104 x98.1 := f103
          refine WL_v rfl (VS_move rfl) ?_
          refine WL_v rfl (VS_extract rfl rfl) ?_
          refine WL_v rfl (VS_extract rfl rfl) ?_
          obtain ⟨c105, hc105, f106⟩ : ∃ cc, splice cs1 0 c104 = cc ∧ (L_ref05_Table).rep (fun w => K w ∧ Hs [.ext bs100 J101, .ext bs65 J66] w) cc x98.1 := ⟨_, rfl, (Pth.id (L := L_ref05_Table)).set (Lay.mono _ ent f1) (Lay.mono _ ent f103)⟩
          refine WL_x0 (RX_stN c104 (Pth.id (L := L_ref05_Table)) (v := x98.1) (r := f1) (rv := ((Lay.mono _ ent f103) : (L_ref05_Table).rep (fun w => K w ∧ Hs [.ext bs100 J101, .ext bs65 J66] w) c104 x98.1)) rfl rfl rfl rfl hc105) (fun _ _ => ?_)
          refine WL_v rfl (VS_assign rfl) ?_
          refine WL_nil ?_
          refine WQ_block ?_
          refine WQ_bundle (R := [.ext bs100 J101, .ext bs91 J92, .ext bs84 J85, .ext bs65 J66]) (H' := [.cells b15 83 c80, .cells b7 105 zc_ref05_Table, .cells b6 77 zc_table_Table, .cells b5 85 cs2, .cells b4 105 c105, .cells b3 77 c96]) (ks := [0, 1, 2, 3, 4, 5, 6, 7, 8, 9]) rfl (by decide) ?_
          exact WQ_cuts (x89.2, x98.2, 0, 0, x98.1, x89.1, c105, c96, (blks [.ext bs100 J101, .ext bs91 J92, .ext bs84 J85, .ext bs65 J66]), (Hs [.ext bs100 J101, .ext bs91 J92, .ext bs84 J85, .ext bs65 J66])) ⟨(Lay.mono _ ent f106), (Lay.mono _ ent f97), h⟩ (Sub_cons rfl (Sub_cons rfl (Sub_cons rfl (Sub_cons rfl (Sub_nil))))) (.cons rfl (.cons rfl (.cons rfl (.cons rfl (.nil))))) (ks := [0, 2, 3, 4, 5, 6]) rfl (by decide)
      ·
        replace h := cn_f hc h
        refine WP_seq ?_
        refine WP_region ?_
        refine WL_v rfl (VS_eql rfl rfl) ?_
        refine WL_v rfl (VS_assign rfl) ?_
        refine WL_nil ?_
        refine WQ_then ?_
        refine WP_if rfl (fun hc => ?_) (fun hc => ?_)
        ·
          replace h := cn_t hc h
          refine WP_seq ?_
          obtain ⟨x107, hx107, h⟩ := bd_e h
          refine WP_region ?_
          refine WL_v rfl (VS_loadall rfl (Lay.len _ f0)) ?_
          refine WL_v rfl (VS_move rfl) ?_
          refine WL_v rfl (VS_conv rfl rfl) ?_
          refine WL_v rfl (VS_move rfl) ?_
          refine WL_v rfl (VS_conv rfl rfl) ?_
          refine WL_x rfl (RX_callB (c_table_Table_Raise (K := K) (Lay.mono _ ent f0) hx107) rfl) (fun ⟨w108, bs109, J110⟩ hp111 => ?_)
          obtain ⟨c113, rfl, f112⟩ := hp111
          replace f112 : (L_table_Table).rep (fun w => K w ∧ Hs [.ext bs109 J110] w) c113 x107.1 := f112
          refine WL_v rfl (VS_move rfl) ?_
          refine WL_v rfl (VS_extract rfl rfl) ?_
          refine WL_v rfl (VS_extract rfl rfl) ?_
          obtain ⟨c114, hc114, f115⟩ : ∃ cc, splice cs0 0 c113 = cc ∧ (L_table_Table).rep (fun w => K w ∧ Hs [.ext bs109 J110] w) cc x107.1 := ⟨_, rfl, (Pth.id (L := L_table_Table)).set (Lay.mono _ ent f0) (Lay.mono _ ent f112)⟩
          refine WL_x0 (RX_stN c113 (Pth.id (L := L_table_Table)) (v := x107.1) (r := f0) (rv := ((Lay.mono _ ent f112) : (L_table_Table).rep (fun w => K w ∧ Hs [.ext bs109 J110] w) c113 x107.1)) rfl rfl rfl rfl hc114) (fun _ _ => ?_)
          refine WL_v rfl (VS_assign rfl) ?_
          refine WL_nil ?_
          refine WQ_then ?_
          obtain ⟨x116, hx116, h⟩ := bd_e h
          refine WP_region ?_
          refine WL_v rfl (VS_loadall rfl (Lay.len _ f1)) ?_
          refine WL_v rfl (VS_move rfl) ?_
          refine WL_v rfl (VS_move rfl) ?_
          refine WL_x rfl (RX_callB (c_ref05_Table_Raise (K := K) (Lay.mono _ ent f1) hx116) rfl) (fun ⟨w117, bs118, J119⟩ hp120 => ?_)
          obtain ⟨c122, rfl, f121⟩ := hp120
          replace f121 : (L_ref05_Table).rep (fun w => K w ∧ Hs [.ext bs118 J119] w) c122 x116.1 := f121
          refine WL_v rfl (VS_move rfl) ?_
          refine WL_v rfl (VS_extract rfl rfl) ?_
          refine WL_v rfl (VS_extract rfl rfl) ?_
          obtain ⟨c123, hc123, f124⟩ : ∃ cc, splice cs1 0 c122 = cc ∧ (L_ref05_Table).rep (fun w => K w ∧ Hs [.ext bs118 J119] w) cc x116.1 := ⟨_, rfl, (Pth.id (L := L_ref05_Table)).set (Lay.mono _ ent f1) (Lay.mono _ ent f121)⟩
          refine WL_x0 (RX_stN c122 (Pth.id (L := L_ref05_Table)) (v := x116.1) (r := f1) (rv := ((Lay.mono _ ent f121) : (L_ref05_Table).rep (fun w => K w ∧ Hs [.ext bs118 J119] w) c122 x116.1)) rfl rfl rfl rfl hc123) (fun _ _ => ?_)
          refine WL_v rfl (VS_assign rfl) ?_
          refine WL_nil ?_
          refine WQ_block ?_
          refine WQ_bundle (R := [.ext bs118 J119, .ext bs109 J110]) (H' := [.cells b7 105 zc_ref05_Table, .cells b6 77 zc_table_Table, .cells b5 85 cs2, .cells b4 105 c123, .cells b3 77 c114]) (ks := [0, 1, 2, 3, 4, 5, 6]) rfl (by decide) ?_
          exact WQ_cuts (x107.2, x116.2, 0, 0, x116.1, x107.1, c123, c114, (blks [.ext bs118 J119, .ext bs109 J110]), (Hs [.ext bs118 J119, .ext bs109 J110])) ⟨(Lay.mono _ ent f124), (Lay.mono _ ent f115), h⟩ (Sub_cons rfl (Sub_cons rfl (Sub_cons rfl (Sub_cons rfl (Sub_nil))))) (.cons rfl (.cons rfl (.cons rfl (.cons rfl (.nil))))) (ks := [0, 1, 2, 3, 4, 5]) rfl (by decide)
        ·
          replace h := cn_f hc h
          refine WP_seq ?_
          obtain ⟨x125, hx125, h⟩ := bd_e h
          refine WP_region ?_
          refine WL_v rfl (VS_loadall rfl (Lay.len _ f0)) ?_
          refine WL_v rfl (VS_move rfl) ?_
          refine WL_v rfl (VS_conv rfl rfl) ?_
          refine WL_v rfl (VS_field0 rfl) ?_
          refine WL_v rfl (VS_field rfl) ?_
          refine WL_v rfl (VS_load rfl ((P_law05_Act_R.comp P_ref05_Region_Quota).int f2)) ?_
          refine WL_x rfl (RX_callB (c_table_Table_New (K := K) (Lay.mono _ ent f0) hx125) rfl) (fun ⟨w126, bs127, J128⟩ hp129 => ?_)
          obtain ⟨c131, rfl, f130⟩ := hp129
          replace f130 : (L_table_Table).rep (fun w => K w ∧ Hs [.ext bs127 J128] w) c131 x125.1 := f130
          refine WL_v rfl (VS_move rfl) ?_
          refine WL_v rfl (VS_extract rfl rfl) ?_
          refine WL_v rfl (VS_extract rfl rfl) ?_
          refine WL_v rfl (VS_extract rfl rfl) ?_
          obtain ⟨c132, hc132, f133⟩ : ∃ cc, splice cs0 0 c131 = cc ∧ (L_table_Table).rep (fun w => K w ∧ Hs [.ext bs127 J128] w) cc x125.1 := ⟨_, rfl, (Pth.id (L := L_table_Table)).set (Lay.mono _ ent f0) (Lay.mono _ ent f130)⟩
          refine WL_x0 (RX_stN c131 (Pth.id (L := L_table_Table)) (v := x125.1) (r := f0) (rv := ((Lay.mono _ ent f130) : (L_table_Table).rep (fun w => K w ∧ Hs [.ext bs127 J128] w) c131 x125.1)) rfl rfl rfl rfl hc132) (fun _ _ => ?_)
          refine WL_v rfl (VS_assign rfl) ?_
          refine WL_v rfl (VS_assign rfl) ?_
          refine WL_nil ?_
          refine WQ_then ?_
          obtain ⟨x134, hx134, h⟩ := bd_e h
          refine WP_region ?_
          refine WL_v rfl (VS_loadall rfl (Lay.len _ f1)) ?_
          refine WL_v rfl (VS_move rfl) ?_
          refine WL_v rfl (VS_field0 rfl) ?_
          refine WL_v rfl (VS_field rfl) ?_
          refine WL_v rfl (VS_load rfl ((P_law05_Act_R.comp P_ref05_Region_Quota).int f2)) ?_
          refine WL_x rfl (RX_callB (c_ref05_Table_New (K := K) (Lay.mono _ ent f1) hx134) rfl) (fun ⟨w135, bs136, J137⟩ hp138 => ?_)
          obtain ⟨c140, rfl, f139⟩ := hp138
          replace f139 : (L_ref05_Table).rep (fun w => K w ∧ Hs [.ext bs136 J137] w) c140 x134.1 := f139
          refine WL_v rfl (VS_move rfl) ?_
          refine WL_v rfl (VS_extract rfl rfl) ?_
          refine WL_v rfl (VS_extract rfl rfl) ?_
          refine WL_v rfl (VS_extract rfl rfl) ?_
          obtain ⟨c141, hc141, f142⟩ : ∃ cc, splice cs1 0 c140 = cc ∧ (L_ref05_Table).rep (fun w => K w ∧ Hs [.ext bs136 J137] w) cc x134.1 := ⟨_, rfl, (Pth.id (L := L_ref05_Table)).set (Lay.mono _ ent f1) (Lay.mono _ ent f139)⟩
          refine WL_x0 (RX_stN c140 (Pth.id (L := L_ref05_Table)) (v := x134.1) (r := f1) (rv := ((Lay.mono _ ent f139) : (L_ref05_Table).rep (fun w => K w ∧ Hs [.ext bs136 J137] w) c140 x134.1)) rfl rfl rfl rfl hc141) (fun _ _ => ?_)
          refine WL_v rfl (VS_assign rfl) ?_
          refine WL_v rfl (VS_assign rfl) ?_
          refine WL_nil ?_
          refine WQ_block ?_
          refine WQ_bundle (R := [.ext bs136 J137, .ext bs127 J128]) (H' := [.cells b7 105 zc_ref05_Table, .cells b6 77 zc_table_Table, .cells b5 85 cs2, .cells b4 105 c141, .cells b3 77 c132]) (ks := [0, 1, 2, 3, 4, 5, 6]) rfl (by decide) ?_
          exact WQ_cuts (x125.2.2, x134.2.2, x125.2.1, x134.2.1, x134.1, x125.1, c141, c132, (blks [.ext bs136 J137, .ext bs127 J128]), (Hs [.ext bs136 J137, .ext bs127 J128])) ⟨(Lay.mono _ ent f142), (Lay.mono _ ent f133), h⟩ (Sub_cons rfl (Sub_cons rfl (Sub_cons rfl (Sub_cons rfl (Sub_nil))))) (.cons rfl (.cons rfl (.cons rfl (.cons rfl (.nil))))) (ks := [0, 1, 2, 3, 4, 5]) rfl (by decide)
  ·
    rintro ⟨x25, x26, x27, x28, x29, x32, c30, c33, bs23, J24⟩ ⟨f31, f34, h⟩
    replace h : j35 x25 x26 x27 x28 x29 x32 = some r := h
    replace h := jn6_u hj35 h
    refine WP_seq ?_
    refine WP_draw mixed (.stg [] [(0, [3]), (1, [4]), (2, [11]), (3, [12]), (4, [116, 117]), (5, [118]), (6, [13, 119]), (7, [119, 120]), (8, [14, 119]), (9, [119, 121, 122]), (10, [119, 123])] (.alt 11 [6, 114] (.stg [(1, [4]), (6, [13, 119]), (7, [119, 120]), (8, [14, 119]), (9, [119, 121, 122]), (10, [119, 123])] [] (.alt 12 [7, 115] (.stg [(6, [13, 119]), (7, [119, 120]), (8, [14, 119]), (9, [119, 121, 122]), (10, [119, 123])] [] (.alt 13 [124] (.fin [] []) .no)) .no)) .no)) (by kernel_rfl) ?_
    refine Stg_stg ?_ ?_
    · exact ReOk_nil
    refine NewOk_cons rfl rfl (VG_v rfl (VS_loadall rfl (Lay.len _ f34))) ?_
    refine NewOk_cons rfl rfl (VG_v rfl (VS_loadall rfl (Lay.len _ f31))) ?_
    refine NewOk_cons rfl rfl (VG_v rfl (VS_move rfl)) ?_
    refine NewOk_cons rfl rfl (VG_v rfl (VS_move rfl)) ?_
    refine NewOk_cons rfl rfl (VG_v rfl (VS_eql rfl rfl)) ?_
    refine NewOk_cons rfl rfl (VG_v rfl (VS_move rfl)) ?_
    refine NewOk_cons rfl rfl (VG_g (Gd_b rfl rfl) (fun hb => VS_move rfl)) ?_
    refine NewOk_cons rfl rfl (VG_g (Gd_b rfl rfl) (fun hb => VS_conv (gev rfl hb) rfl)) ?_
    refine NewOk_cons rfl rfl (VG_g (Gd_b rfl rfl) (fun hb => VS_move rfl)) ?_
    refine NewOk_cons rfl rfl (VG_g (Gd_b rfl rfl) (fun hb => VS_eql (gev rfl hb) (gev rfl hb))) ?_
    refine NewOk_cons rfl rfl (VG_v rfl (VS_and rfl rfl)) ?_
    refine NewOk_nil ?_
    obtain ⟨c143, hc143, f144⟩ : ∃ cc, splice zc_table_Table 0 c33 = cc ∧ (L_table_Table).rep (fun w => K w ∧ Hs [.ext bs23 J24] w) cc x32 := ⟨_, rfl, (Pth.id (L := L_table_Table)).set (Lay.mono _ ent (show (L_table_Table).rep (Hs []) zc_table_Table Z_table_Table from zr_table_Table)) (Lay.mono _ ent f34)⟩
    refine Stg_none rfl (RG_x rfl (RX_stN c33 (Pth.id (L := L_table_Table)) (v := x32) (r := (show (L_table_Table).rep (Hs []) zc_table_Table Z_table_Table from zr_table_Table)) (rv := ((Lay.mono _ ent f34) : (L_table_Table).rep (fun w => K w ∧ Hs [.ext bs23 J24] w) c33 x32)) rfl rfl rfl rfl hc143)) (fun _ _ => ?_) Stg_no
    refine Stg_stg ?_ ?_
    ·
      refine ReOk_cons rfl rfl (VG_v rfl (VS_val (VS_loadall rfl (Lay.len _ f31)) rfl)) ?_
      refine ReOk_cons rfl rfl (VG_g (Gd_b rfl rfl) (fun hb => VS_move rfl)) ?_
      refine ReOk_cons rfl rfl (VG_g (Gd_b rfl rfl) (fun hb => VS_val (VS_conv (gev rfl hb) rfl) rfl)) ?_
      refine ReOk_cons rfl rfl (VG_g (Gd_b rfl rfl) (fun hb => VS_move rfl)) ?_
      refine ReOk_cons rfl rfl (VG_g (Gd_b rfl rfl) (fun hb => VS_val (VS_eql (gev rfl hb) (gev rfl hb)) rfl)) ?_
      refine ReOk_cons rfl rfl (VG_v rfl (VS_val (VS_and rfl rfl) rfl)) ?_
      exact ReOk_nil
    refine NewOk_nil ?_
    obtain ⟨c145, hc145, f146⟩ : ∃ cc, splice zc_ref05_Table 0 c30 = cc ∧ (L_ref05_Table).rep (fun w => K w ∧ Hs [.ext bs23 J24] w) cc x29 := ⟨_, rfl, (Pth.id (L := L_ref05_Table)).set (Lay.mono _ ent (show (L_ref05_Table).rep (Hs []) zc_ref05_Table Z_ref05_Table from zr_ref05_Table)) (Lay.mono _ ent f31)⟩
    refine Stg_none rfl (RG_x rfl (RX_stN c30 (Pth.id (L := L_ref05_Table)) (v := x29) (r := (show (L_ref05_Table).rep (Hs []) zc_ref05_Table Z_ref05_Table from zr_ref05_Table)) (rv := ((Lay.mono _ ent f31) : (L_ref05_Table).rep (fun w => K w ∧ Hs [.ext bs23 J24] w) c30 x29)) rfl rfl rfl rfl hc145)) (fun _ _ => ?_) Stg_no
    refine Stg_stg ?_ ?_
    ·
      refine ReOk_cons rfl rfl (VG_g (Gd_b rfl rfl) (fun hb => VS_move rfl)) ?_
      refine ReOk_cons rfl rfl (VG_g (Gd_b rfl rfl) (fun hb => VS_val (VS_conv (gev rfl hb) rfl) rfl)) ?_
      refine ReOk_cons rfl rfl (VG_g (Gd_b rfl rfl) (fun hb => VS_move rfl)) ?_
      refine ReOk_cons rfl rfl (VG_g (Gd_b rfl rfl) (fun hb => VS_val (VS_eql (gev rfl hb) (gev rfl hb)) rfl)) ?_
      refine ReOk_cons rfl rfl (VG_v rfl (VS_val (VS_and rfl rfl) rfl)) ?_
      exact ReOk_nil
    refine NewOk_nil ?_
    refine Stg_some rfl rfl (RG_x rfl ((VS_assign rfl).rx)) (fun _ _ => ?_) Stg_no
    refine Stg_fin ?_ ?_
    · exact ReOk_nil
    refine NewOk_nil ?_
    refine WQ_then ?_
    refine WP_ret ?_
    replace h := Option.some.inj h
    subst h
    refine WQ_bundle (R := [.ext bs23 J24]) (H' := [.cells b7 105 c145, .cells b6 77 c143]) (ks := [0, 1, 2]) rfl (by decide) ?_
    have p147 : (L_table_Table).rep (fun w => K w ∧ (Hs [.ext (blks [.ext bs23 J24]) (Hs [.ext bs23 J24])]) w) c143 x32 := Lay.mono _ ent f144
    have p148 : (L_ref05_Table).rep (fun w => K w ∧ (Hs [.ext (blks [.ext bs23 J24]) (Hs [.ext bs23 J24])]) w) c145 x29 := Lay.mono _ ent f146
    exact WQ_ret (.tuple #[.agg c143.toArray, .agg c145.toArray, .bool ((x25 == x26) && ((wr .i64 x27) == x28))], blks [.ext bs23 J24], Hs [.ext bs23 J24]) rfl (.agg rfl inferInstance inferInstance (Lay.len _ f144) (.agg rfl inferInstance inferInstance (Lay.len _ f146) (.tmp rfl .nil))) ⟨_, _, rfl, p147, p148⟩ rfl (ks := [0]) rfl (by decide)
def law05_Great (n : Nat) (a0 : (List law05_Act)) : Option Bool :=
  cn (decide (150 < (a0.length : Int))) (
  some true) (
  loop1 (fun k25 (x22 : Int) =>
  cn (decide (x22 < (a0.length : Int))) (
  gu (inb x22 a0.length) <|
  cn (decide (80 < (((a0.getD (Int.toNat x22) default).R.E.Runs).length : Int))) (
  some true) (
  k25 (wr .i64 (x22 + 1)))) (
  some false)) n 0)
theorem c_law05_Great {n : Nat} {a0 : (List law05_Act)} {r : Bool} {K : World → Prop} [Stable K] {v0 : Value} {ws0 : List Value} (f0 : Fzc K v0 L_law05_Act ws0 a0) (h : law05_Great n a0 = some r) : FnW Try.prog 31 [v0] K (.bool r) := by
  unfold law05_Great at h
  refine fn_of Try.func31 (by kernel_rfl) rfl Try.ntmps31 rfl (fun cx hbs hpre hro => ?_)
  haveI := knf_pre hbs hpre
  refine WP_seq ?_
  refine WP_region ?_
  refine WL_v rfl (VS_assign rfl) ?_
  refine WL_nil ?_
  refine WQ_then ?_
  refine WP_seq ?_
  refine WP_seq ?_
  refine WP_region ?_
  refine WL_v rfl (VS_move rfl) ?_
  refine WL_v rfl (VS_lenN f0 rfl) ?_
  refine WL_v rfl (VS_gtr rfl rfl) ?_
  refine WL_nil ?_
  refine WQ_then ?_
  refine WP_if rfl (fun hc => ?_) (fun hc => ?_)
  ·
    replace h := cn_t hc h
    refine WP_seq ?_
    refine WP_region ?_
    refine WL_v rfl (VS_assign rfl) ?_
    refine WL_nil ?_
    refine WQ_then ?_
    refine WP_ret ?_
    refine WQ_then_ret ?_
    replace h := Option.some.inj h
    subst h
    exact WQ_ret () rfl (.tmp rfl .nil) trivial rfl (ks := []) rfl (by decide)
  ·
    replace h := cn_f hc h
    refine WP_skip ?_
    refine WQ_then ?_
    refine WP_seq ?_
    refine WP_seq ?_
    refine WP_region ?_
    refine WL_v rfl (VS_assign rfl) ?_
    refine WL_nil ?_
    refine WQ_then ?_
    refine WP_block ?_
    obtain ⟨lb23, hlb23, h⟩ := lp1_i h
    refine WP_loops (α := Nat × Int) [0] (.cons rfl (.nil)) (fun (m24, x22) => [(3, .int .i64 x22)]) (fun (m24, x22) => []) (fun (m24, x22) => loop1 lb23 m24 x22 = some r) (fun (m24, x22) => m24) (n, 0) h (Sub_cons rfl (Sub_nil)) (ks := []) rfl (by decide) ?_
    rintro ⟨m24, x22⟩ h
    replace h : loop1 lb23 m24 x22 = some r := h
    replace h := lp1_s hlb23 h
    obtain ⟨m24, rfl, h⟩ := h
    refine WP_seq ?_
    refine WP_seq ?_
    refine WP_region ?_
    refine WL_v rfl (VS_move rfl) ?_
    refine WL_v rfl (VS_move rfl) ?_
    refine WL_v rfl (VS_lenN f0 rfl) ?_
    refine WL_v rfl (VS_lss rfl rfl) ?_
    refine WL_nil ?_
    refine WQ_then ?_
    refine WP_if rfl (fun hc => ?_) (fun hc => ?_)
    ·
      replace h := cn_t hc h
      refine WP_skip ?_
      refine WQ_then ?_
      refine WP_seq ?_
      refine WP_block ?_
      refine WP_seq ?_
      obtain ⟨hg26, h⟩ := gu_e h
      refine WP_region ?_
      refine WL_v rfl (VS_move rfl) ?_
      refine WL_v rfl (VS_move rfl) ?_
      refine WL_v rfl (VS_ixN (m := (Int.toNat x22)) f0 rfl rfl rfl (inb_e hg26).1 (inb_e hg26).2) ?_
      refine WL_v rfl (VS_fldN f0 rfl (inb_e hg26).2) ?_
      refine WL_v rfl (VS_fldN f0 rfl (inb_e hg26).2) ?_
      refine WL_v rfl (VS_fldN f0 rfl (inb_e hg26).2) ?_
      obtain ⟨v27, hv27, f28⟩ := ((((Pth.idx (L := L_law05_Act) (m := (a0.length)) (k := 15) ((Int.toNat x22)) (inb_e hg26).2 rfl).comp P_law05_Act_R).comp P_ref05_Region_E).comp P_ref04_Extent_Runs).sl f0.rep
      refine WL_v rfl (VS_ldvN f0 rfl hv27) ?_
      refine WL_v rfl (VS_lenF f28 rfl) ?_
      refine WL_v rfl (VS_gtr rfl rfl) ?_
      refine WL_nil ?_
      refine WQ_then ?_
      refine WP_if rfl (fun hc => ?_) (fun hc => ?_)
      ·
        replace h := cn_t hc h
        refine WP_seq ?_
        refine WP_region ?_
        refine WL_v rfl (VS_assign rfl) ?_
        refine WL_nil ?_
        refine WQ_then ?_
        refine WP_ret ?_
        refine WQ_block_ret ?_
        refine WQ_then_ret ?_
        refine WQ_then_ret ?_
        refine WQ_block_ret ?_
        refine WQ_then_ret ?_
        replace h := Option.some.inj h
        subst h
        exact WQ_ret () rfl (.tmp rfl .nil) trivial rfl (ks := []) rfl (by decide)
      ·
        replace h := cn_f hc h
        refine WP_skip ?_
        refine WQ_block ?_
        refine WQ_then ?_
        refine WP_region ?_
        refine WL_v rfl (VS_move rfl) ?_
        refine WL_v rfl (VS_add rfl rfl rfl) ?_
        refine WL_v rfl (VS_assign rfl) ?_
        refine WL_nil ?_
        exact WQ_loops (m24, wr .i64 (x22 + 1)) (Nat.lt_succ_self _) h (Sub_cons rfl (Sub_nil)) (.cons rfl (.nil)) (ks := []) rfl (by decide)
    ·
      replace h := cn_f hc h
      refine WP_exit ?_
      refine WQ_then_exit ?_
      refine WQ_then_exit ?_
      refine WQ_block_exit ?_
      refine WQ_then ?_
      refine WP_seq ?_
      refine WP_region ?_
      refine WL_v rfl (VS_assign rfl) ?_
      refine WL_nil ?_
      refine WQ_then ?_
      refine WP_ret ?_
      replace h := Option.some.inj h
      subst h
      exact WQ_ret () rfl (.tmp rfl .nil) trivial rfl (ks := []) rfl (by decide)
def ref05_Table_All (n : Nat) (a0 : ref05_Table) : Option (List Int) :=
  loop2 (fun k33 (x27 : (List Int)) (x30 : Int) =>
  cn (decide (x30 < 32)) (
  gu (inb x30 32) <|
  cn (((a0.B.Is (Int.toNat x30)) == 1)) (
  bd (ref03_Book_Of n a0.B x30) fun x35 =>
  gu (apok x27.length 1 8) <|
  lt (x27 ++ ([x35]) : List Int) fun x37 =>
  k33 x37 (wr .i64 (x30 + 1))) (
  k33 x27 (wr .i64 (x30 + 1)))) (
  some x27)) n ([]) 0
theorem c_ref05_Table_All {n : Nat} {a0 : ref05_Table} {r : (List Int)} {K : World → Prop} [Stable K] {cs0 : List Value} (f0 : (L_ref05_Table).rep K cs0 a0) (h : ref05_Table_All n a0 = some r) : FnB Try.prog 114 [.agg cs0.toArray] K (fun J v => Fz (fun w => K w ∧ J w) v (LI .i64) r) := by
  unfold ref05_Table_All at h
  refine fn_of Try.func114 (by kernel_rfl) rfl Try.ntmps114 rfl (fun cx hbs hpre hro => ?_)
  haveI := knf_pre hbs hpre
  refine WP_seq ?_
  refine WP_region ?_
  refine WL_x rfl (RX_boxa rfl) (fun b1 _ => ?_)
  refine WL_v rfl (VS_assign rfl) ?_
  refine WL_nil ?_
  refine WQ_then ?_
  refine WP_seq ?_
  refine WP_region ?_
  refine WL_v rfl (VS_assign rfl) ?_
  refine WL_nil ?_
  refine WQ_then ?_
  refine WP_seq ?_
  refine WP_seq ?_
  refine WP_region ?_
  refine WL_v rfl (VS_assign rfl) ?_
  refine WL_nil ?_
  refine WQ_then ?_
  refine WP_block ?_
  refine WP_rowN 3 1 (LI .i64) ?_
  obtain ⟨lb31, hlb31, h⟩ := lp2_i h
  refine WP_loops (α := Nat × (List Int) × Int × Value) [1] (.cons rfl (.nil)) (fun (m32, x27, x30, v28) => [(3, v28), (4, .int .i64 x30)]) (fun (m32, x27, x30, v28) => [Row v28 3 1 (LI .i64) x27, .cells b1 105 cs0]) (fun (m32, x27, x30, v28) => SlN v28 x27.length ∧ loop2 lb31 m32 x27 x30 = some r) (fun (m32, x27, x30, v28) => m32) (n, [], 0, .slice none 0 0) ⟨⟨_, _, rfl⟩, h⟩ (Sub_cons rfl (Sub_cons rfl (Sub_nil))) (ks := [0, 1]) rfl (by decide) ?_
  rintro ⟨m32, x27, x30, v28⟩ ⟨hs29, h⟩
  replace h : loop2 lb31 m32 x27 x30 = some r := h
  replace h := lp2_s hlb31 h
  obtain ⟨m32, rfl, h⟩ := h
  refine WP_seq ?_
  refine WP_seq ?_
  refine WP_region ?_
  refine WL_v rfl (VS_move rfl) ?_
  refine WL_v rfl (VS_lss rfl rfl) ?_
  refine WL_nil ?_
  refine WQ_then ?_
  refine WP_if rfl (fun hc => ?_) (fun hc => ?_)
  ·
    replace h := cn_t hc h
    refine WP_skip ?_
    refine WQ_then ?_
    refine WP_seq ?_
    refine WP_block ?_
    refine WP_seq ?_
    obtain ⟨hg34, h⟩ := gu_e h
    refine WP_region ?_
    refine WL_v rfl (VS_move rfl) ?_
    refine WL_v rfl (VS_field0 rfl) ?_
    refine WL_v rfl (VS_field0 rfl) ?_
    refine WL_v rfl (VS_index (m := (Int.toNat x30)) rfl rfl (inb_e hg34).1 (inb_e hg34).2) ?_
    refine WL_v rfl (VS_load rfl (((P_ref05_Table_B.c0 P_ref03_Book_Is).comp (Pth.idx (L := (LI .i64)) (m := 32) (k := 1) ((Int.toNat x30)) (inb_e hg34).2 rfl)).int f0)) ?_
    refine WL_v rfl (VS_eql rfl rfl) ?_
    refine WL_nil ?_
    refine WQ_then ?_
    refine WP_if rfl (fun hc => ?_) (fun hc => ?_)
    ·
      replace h := cn_t hc h
      obtain ⟨x35, hx35, h⟩ := bd_e h
      obtain ⟨hg36, h⟩ := gu_e h
      obtain ⟨x37, hx37, h⟩ := lt_e h
      refine WP_region ?_
      refine WL_v rfl (VS_move rfl) ?_
      refine WL_v rfl (VS_field0 rfl) ?_
      refine WL_v rfl (VS_loadpart rfl (FlatL.iff.1 (P_ref05_Table_B.get f0)) (enc_len _ _)) ?_
      refine WL_v rfl (VS_move rfl) ?_
      refine WL_v rfl (VS_call (c_ref03_Book_Of hx35) rfl (fun _ _ _ => trivial)) ?_
      refine WL_x rfl (RX_bs1 (LI .i64) x35 rfl rfl rfl rfl (by decide) (by decide)) (fun b20 _ => ?_)
      refine WL_x rfl (RX_app1 (sz := 1) (L := (LI .i64)) (xs := x27) (y := x35) (bytes := 8) rfl rfl rfl (apok_e hg36).1 (apok_e hg36).2) (fun v38 hs39 => ?_)
      rw [← hx37] at hs39; rw [← hx37]
      refine WL_v rfl (VS_assign rfl) ?_
      refine WL_nil ?_
      refine WQ_block ?_
      refine WQ_then ?_
      refine WP_region ?_
      refine WL_v rfl (VS_move rfl) ?_
      refine WL_v rfl (VS_add rfl rfl rfl) ?_
      refine WL_v rfl (VS_assign rfl) ?_
      refine WL_nil ?_
      exact WQ_loops (m32, x37, wr .i64 (x30 + 1), v38) (Nat.lt_succ_self _) ⟨hs39, h⟩ (Sub_cons rfl (Sub_cons rfl (Sub_nil))) (.cons rfl (.nil)) (ks := [1, 2]) rfl (by decide)
    ·
      replace h := cn_f hc h
      refine WP_skip ?_
      refine WQ_block ?_
      refine WQ_then ?_
      refine WP_region ?_
      refine WL_v rfl (VS_move rfl) ?_
      refine WL_v rfl (VS_add rfl rfl rfl) ?_
      refine WL_v rfl (VS_assign rfl) ?_
      refine WL_nil ?_
      exact WQ_loops (m32, x27, wr .i64 (x30 + 1), v28) (Nat.lt_succ_self _) ⟨hs29, h⟩ (Sub_cons rfl (Sub_cons rfl (Sub_nil))) (.cons rfl (.nil)) (ks := [0, 1]) rfl (by decide)
  ·
    replace h := cn_f hc h
    refine WP_exit ?_
    refine WQ_then_exit ?_
    refine WQ_then_exit ?_
    refine WQ_block_exit ?_
    refine WQ_then ?_
    refine WP_seq ?_
    refine WP_region ?_
    refine WL_v rfl (VS_move rfl) ?_
    refine WL_v rfl (VS_assign rfl) ?_
    refine WL_nil ?_
    refine WQ_then ?_
    refine WP_ret ?_
    replace h := Option.some.inj h
    subst h
    refine WQ_bundle (R := [Row v28 3 1 (LI .i64) x27]) (H' := []) (ks := [0]) rfl (by decide) ?_
    have p40 : Fz (fun w => K w ∧ (Hs [.ext (blks [Row v28 3 1 (LI .i64) x27]) (Hs [Row v28 3 1 (LI .i64) x27])]) w) v28 (LI .i64) x27 := (Fz.row (e := 3) (sz := 1) (L := (LI .i64)) (xs := x27) rfl hs29).mono ent
    exact WQ_ret (v28, blks [Row v28 3 1 (LI .i64) x27], Hs [Row v28 3 1 (LI .i64) x27]) rfl (.tmp rfl .nil) p40 rfl (ks := [0]) rfl (by decide)
def ref05_Table_Get (n : Nat) (a0 : ref05_Table) (a1 : Int) : Option (ref05_Region × Int) :=
  bd (ref03_Book_Slot n a0.B a1) fun x21 =>
  cn (decide (x21 < 0)) (
  lt ({ Up := 0, Quota := 0, E := Z_ref04_Extent, Cells := (fun _ => 0) } : ref05_Region) fun x22 =>
  some (x22, 4)) (
  gu (inb x21 32) <|
  lt ((a0.R (Int.toNat x21)) : ref05_Region) fun x31 =>
  some (x31, 0))
theorem c_ref05_Table_Get {n : Nat} {a0 : ref05_Table} {a1 : Int} {r : ref05_Region × Int} {K : World → Prop} [Stable K] {cs0 : List Value} (f0 : (L_ref05_Table).rep K cs0 a0) (h : ref05_Table_Get n a0 a1 = some r) : FnB Try.prog 115 [.agg cs0.toArray, .int .i64 a1] K (fun J v => ∃ u0, v = (.tuple #[.agg u0.toArray, .int .i64 r.2]) ∧ (L_ref05_Region).rep (fun w => K w ∧ J w) u0 (r.1)) := by
  unfold ref05_Table_Get at h
  refine fn_of Try.func115 (by kernel_rfl) rfl Try.ntmps115 rfl (fun cx hbs hpre hro => ?_)
  haveI := knf_pre hbs hpre
  refine WP_seq ?_
  refine WP_region ?_
  refine WL_x rfl (RX_boxa rfl) (fun b2 _ => ?_)
  refine WL_x rfl (RX_alloc (hz := (⟨by kernel_rfl⟩ : TZero Try.prog 83 zc_ref05_Region))) (fun b4 _ => ?_)
  refine WL_v rfl (VS_assign rfl) ?_
  refine WL_nil ?_
  refine WQ_then ?_
  refine WP_seq ?_
  obtain ⟨x21, hx21, h⟩ := bd_e h
  refine WP_region ?_
  refine WL_v rfl (VS_field0 rfl) ?_
  refine WL_v rfl (VS_loadpart rfl (FlatL.iff.1 (P_ref05_Table_B.get f0)) (enc_len _ _)) ?_
  refine WL_v rfl (VS_move rfl) ?_
  refine WL_v rfl (VS_call (c_ref03_Book_Slot hx21) rfl (fun _ _ _ => trivial)) ?_
  refine WL_v rfl (VS_assign rfl) ?_
  refine WL_nil ?_
  refine WQ_then ?_
  refine WP_seq ?_
  refine WP_seq ?_
  refine WP_region ?_
  refine WL_v rfl (VS_move rfl) ?_
  refine WL_v rfl (VS_lss rfl rfl) ?_
  refine WL_nil ?_
  refine WQ_then ?_
  refine WP_if rfl (fun hc => ?_) (fun hc => ?_)
  ·
    replace h := cn_t hc h
    refine WP_seq ?_
    obtain ⟨x22, hx22, h⟩ := lt_e h
    refine WP_region ?_
    obtain ⟨c23, hc23, f24⟩ : ∃ cc, (((LI .i64).enc 0) ++ (((LI .i64).enc 0) ++ (zc_ref04_Extent ++ ((LA (LI .i64) 8).enc (fun _ => 0))))) = cc ∧ (L_ref05_Region).rep (Hs []) cc x22 := ⟨_, rfl, by rw [hx22]; exact ⟨_, _, rfl, (FlatL.iff.2 rfl), ⟨_, _, rfl, (FlatL.iff.2 rfl), ⟨_, _, rfl, zr_ref04_Extent, (FlatL.iff.2 rfl)⟩⟩⟩⟩
    refine WL_v rfl (VS_build (cs := c23) rfl (by rw [← hc23]; rfl)) ?_
    obtain ⟨c25, hc25, f26⟩ : ∃ cc, splice zc_ref05_Region 0 c23 = cc ∧ (L_ref05_Region).rep (Hs []) cc x22 := ⟨_, rfl, (Pth.id (L := L_ref05_Region)).set (Lay.mono _ ent (show (L_ref05_Region).rep (Hs []) zc_ref05_Region Z_ref05_Region from zr_ref05_Region)) (Lay.mono _ ent f24)⟩
    refine WL_x0 (RX_stN c23 (Pth.id (L := L_ref05_Region)) (v := x22) (r := (show (L_ref05_Region).rep (Hs []) zc_ref05_Region Z_ref05_Region from zr_ref05_Region)) (rv := ((Lay.mono _ ent f24) : (L_ref05_Region).rep (Hs []) c23 x22)) rfl rfl rfl rfl hc25) (fun _ _ => ?_)
    refine WL_v rfl (VS_assign rfl) ?_
    refine WL_nil ?_
    refine WQ_then ?_
    refine WP_ret ?_
    refine WQ_then_ret ?_
    replace h := Option.some.inj h
    subst h
    refine WQ_bundle (R := []) (H' := [.cells b4 83 c25]) (ks := [0]) rfl (by decide) ?_
    have p27 : (L_ref05_Region).rep (fun w => K w ∧ (Hs [.ext (blks []) (Hs [])]) w) c25 x22 := Lay.mono _ ent f26
    exact WQ_ret (.tuple #[.agg c25.toArray, .int .i64 4], blks [], Hs []) rfl (.agg rfl inferInstance inferInstance (Lay.len _ f26) (.tmp rfl .nil)) ⟨_, rfl, p27⟩ rfl (ks := [0]) rfl (by decide)
  ·
    replace h := cn_f hc h
    refine WP_skip ?_
    refine WQ_then ?_
    refine WP_seq ?_
    obtain ⟨hg28, h⟩ := gu_e h
    obtain ⟨x31, hx31, h⟩ := lt_e h
    refine WP_region ?_
    refine WL_v rfl (VS_move rfl) ?_
    refine WL_v rfl (VS_field0 rfl) ?_
    refine WL_v rfl (VS_index (m := (Int.toNat x21)) rfl rfl (inb_e hg28).1 (inb_e hg28).2) ?_
    obtain ⟨c29, hc29, f30⟩ := rep_ex ((P_ref05_Table_R.comp (Pth.idx (L := L_ref05_Region) (m := 32) (k := 12) ((Int.toNat x21)) (inb_e hg28).2 rfl)).get f0)
    refine WL_v rfl (VS_loadpart rfl hc29 (Lay.len _ f30)) ?_
    obtain ⟨c32, hc32, f33⟩ : ∃ cc, splice zc_ref05_Region 0 c29 = cc ∧ (L_ref05_Region).rep K cc x31 := ⟨_, rfl, by rw [hx31]; exact (Pth.id (L := L_ref05_Region)).set (Lay.mono _ ent (show (L_ref05_Region).rep (Hs []) zc_ref05_Region Z_ref05_Region from zr_ref05_Region)) (Lay.mono _ ent f30)⟩
    refine WL_x0 (RX_stN c29 (Pth.id (L := L_ref05_Region)) (v := (a0.R (Int.toNat x21))) (r := (show (L_ref05_Region).rep (Hs []) zc_ref05_Region Z_ref05_Region from zr_ref05_Region)) (rv := ((Lay.mono _ ent f30) : (L_ref05_Region).rep K c29 (a0.R (Int.toNat x21)))) rfl rfl rfl rfl hc32) (fun _ _ => ?_)
    refine WL_v rfl (VS_assign rfl) ?_
    refine WL_nil ?_
    refine WQ_then ?_
    refine WP_ret ?_
    replace h := Option.some.inj h
    subst h
    refine WQ_bundle (R := []) (H' := [.cells b4 83 c32]) (ks := [0]) rfl (by decide) ?_
    have p34 : (L_ref05_Region).rep (fun w => K w ∧ (Hs [.ext (blks []) (Hs [])]) w) c32 x31 := Lay.mono _ ent f33
    exact WQ_ret (.tuple #[.agg c32.toArray, .int .i64 0], blks [], Hs []) rfl (.agg rfl inferInstance inferInstance (Lay.len _ f33) (.tmp rfl .nil)) ⟨_, rfl, p34⟩ rfl (ks := [0]) rfl (by decide)
def table_book_All (n : Nat) (a0 : table_book) : Option (List Int) :=
  bd (handle_Book_Issued n a0.Book) fun x21 =>
  some x21
theorem c_table_book_All {n : Nat} {a0 : table_book} {r : (List Int)}  (h : table_book_All n a0 = some r) : FnB Try.prog 38 [.agg (L_table_book.enc a0).toArray] (fun _ => True) (fun J v => Fz J v (LI .u32) r) := by
  unfold table_book_All at h
  refine fn_of Try.func38 (by kernel_rfl) rfl Try.ntmps38 rfl (fun cx hbs hpre hro => ?_)
  refine WP_seq ?_
  refine WP_region ?_
  refine WL_x rfl (RX_boxL L_table_book a0 rfl rfl) (fun b1 _ => ?_)
  refine WL_v rfl (VS_assign rfl) ?_
  refine WL_nil ?_
  refine WQ_then ?_
  refine WP_seq ?_
  obtain ⟨x21, hx21, h⟩ := bd_e h
  refine WP_region ?_
  refine WL_v rfl (VS_field0 rfl) ?_
  refine WL_v rfl (VS_lda (M := L_handle_Book) P_table_book_Book rfl rfl) ?_
  refine WL_x rfl (RX_callB (c_handle_Book_Issued hx21) rfl) (fun ⟨w22, bs23, J24⟩ hp25 => ?_)
  have f26 : Fz (Hs [.ext bs23 J24]) w22 (LI .u32) x21 := hp25
  refine WL_v rfl (VS_assign rfl) ?_
  refine WL_nil ?_
  refine WQ_then ?_
  refine WP_ret ?_
  replace h := Option.some.inj h
  subst h
  refine WQ_bundle (R := [.ext bs23 J24]) (H' := []) (ks := [0]) rfl (by decide) ?_
  have p28 : Fz (Hs [.ext (blks [.ext bs23 J24]) (Hs [.ext bs23 J24])]) w22 (LI .u32) x21 := f26.mono ent
  exact WQ_ret (w22, blks [.ext bs23 J24], Hs [.ext bs23 J24]) rfl (.tmp rfl .nil) p28 rfl (ks := [0]) rfl (by decide)
def law05_Same (n : Nat) (a0 : table_Table) (a1 : ref05_Table) : Option Bool :=
  bd (table_book_All n a0.book) fun x21 =>
  bd (ref05_Table_All n a1) fun x28 =>
  cn (((x21.length : Int) != (x28.length : Int))) (
  some false) (
  loop1 (fun k39 (x36 : Int) =>
  cn (decide (x36 < (x21.length : Int))) (
  gu (inb x36 x21.length) <|
  gu (inb x36 x28.length) <|
  gu (!(((wr .i64 (x21.getD (Int.toNat x36) default)) != (x28.getD (Int.toNat x36) default)) == false) || inb x36 x21.length) <|
  cl (((wr .i64 (x21.getD (Int.toNat x36) default)) != (x28.getD (Int.toNat x36) default)) == false) (handle_Book_Good n a0.book.Book (x21.getD (Int.toNat x36) default)) default fun x43 =>
  cn ((((wr .i64 (x21.getD (Int.toNat x36) default)) != (x28.getD (Int.toNat x36) default)) || (!x43))) (
  some false) (
  gu (inb x36 x21.length) <|
  bd (table_Table_Get n a0 (x21.getD (Int.toNat x36) default)) fun x45 =>
  gu (inb x36 x28.length) <|
  bd (ref05_Table_Get n a1 (x28.getD (Int.toNat x36) default)) fun x55 =>
  cl ((((x45.2 != 0) || ((wr .i64 x45.1.Up) != x55.1.Up)) || (x45.1.Quota != x55.1.Quota)) == false) (law04_Same n x45.1.E x55.1.E) default fun x68 =>
  cn (((((x45.2 != 0) || ((wr .i64 x45.1.Up) != x55.1.Up)) || (x45.1.Quota != x55.1.Quota)) || (!x68))) (
  some false) (
  loop1 (fun k73 (x70 : Int) =>
  cn (decide (x70 < 8)) (
  gu (inb x70 8) <|
  gu (inb x70 8) <|
  cn (((wr .i64 (x45.1.Cells (Int.toNat x70))) != (x55.1.Cells (Int.toNat x70)))) (
  some false) (
  k73 (wr .i64 (x70 + 1)))) (
  k39 (wr .i64 (x36 + 1)))) n 0))) (
  some true)) n 0)
theorem c_law05_Same {n : Nat} {a0 : table_Table} {a1 : ref05_Table} {r : Bool} {K : World → Prop} [Stable K] {cs0 : List Value} (f0 : (L_table_Table).rep K cs0 a0) {cs1 : List Value} (f1 : (L_ref05_Table).rep K cs1 a1) (h : law05_Same n a0 a1 = some r) : FnW Try.prog 43 [.agg cs0.toArray, .agg cs1.toArray] K (.bool r) := by
  unfold law05_Same at h
  refine fn_of Try.func43 (by kernel_rfl) rfl Try.ntmps43 rfl (fun cx hbs hpre hro => ?_)
  haveI := knf_pre hbs hpre
  refine WP_seq ?_
  refine WP_region ?_
  refine WL_x rfl (RX_boxa rfl) (fun b2 _ => ?_)
  refine WL_x rfl (RX_boxa rfl) (fun b3 _ => ?_)
  refine WL_v rfl (VS_assign rfl) ?_
  refine WL_nil ?_
  refine WQ_then ?_
  refine WP_seq ?_
  obtain ⟨x21, hx21, h⟩ := bd_e h
  obtain ⟨x28, hx28, h⟩ := bd_e h
  refine WP_draw mixed (.stg [] [(0, [2]), (1, [13]), (3, [3])] (.alt 2 [14] (.stg [(3, [3])] [] (.alt 4 [16] (.stg [] [] (.alt 5 [15] (.stg [] [] (.alt 6 [17] (.fin [] []) .no)) .no)) .no)) .no)) (by kernel_rfl) ?_
  refine Stg_stg ?_ ?_
  · exact ReOk_nil
  refine NewOk_cons rfl rfl (VG_v rfl (VS_field0 rfl)) ?_
  refine NewOk_cons rfl rfl (VG_v rfl (VS_loadpart rfl (FlatL.iff.1 (P_table_Table_book.get f0)) (enc_len _ _))) ?_
  refine NewOk_cons rfl rfl (VG_v rfl (VS_loadall rfl (Lay.len _ f1))) ?_
  refine NewOk_nil ?_
  refine Stg_some rfl rfl (RG_x rfl (RX_callB (c_table_book_All hx21) rfl)) (fun ⟨w22, bs23, J24⟩ hp25 => ?_) Stg_no
  have f26 : Fz (Hs [.ext bs23 J24]) w22 (LI .u32) x21 := hp25
  refine Stg_stg ?_ ?_
  ·
    refine ReOk_cons rfl rfl (VG_v rfl (VS_val (VS_loadall rfl (Lay.len _ f1)) rfl)) ?_
    exact ReOk_nil
  refine NewOk_nil ?_
  refine Stg_some rfl rfl (RG_x rfl (RX_callB (c_ref05_Table_All (K := K) (Lay.mono _ ent f1) hx28) rfl)) (fun ⟨w29, bs30, J31⟩ hp32 => ?_) Stg_no
  have f33 : Fz (fun w => K w ∧ Hs [.ext bs30 J31] w) w29 (LI .i64) x28 := hp32
  refine Stg_stg ?_ ?_
  · exact ReOk_nil
  refine NewOk_nil ?_
  refine Stg_some rfl rfl (RG_x rfl ((VS_assign rfl).rx)) (fun _ _ => ?_) Stg_no
  refine Stg_stg ?_ ?_
  · exact ReOk_nil
  refine NewOk_nil ?_
  refine Stg_some rfl rfl (RG_x rfl ((VS_assign rfl).rx)) (fun _ _ => ?_) Stg_no
  refine Stg_fin ?_ ?_
  · exact ReOk_nil
  refine NewOk_nil ?_
  refine WQ_then ?_
  refine WP_seq ?_
  refine WP_seq ?_
  refine WP_region ?_
  refine WL_v rfl (VS_move rfl) ?_
  refine WL_v rfl (VS_lenF f26 rfl) ?_
  refine WL_v rfl (VS_move rfl) ?_
  refine WL_v rfl (VS_lenF f33 rfl) ?_
  refine WL_v rfl (VS_neq rfl rfl) ?_
  refine WL_nil ?_
  refine WQ_then ?_
  refine WP_if rfl (fun hc => ?_) (fun hc => ?_)
  ·
    replace h := cn_t hc h
    refine WP_seq ?_
    refine WP_region ?_
    refine WL_v rfl (VS_assign rfl) ?_
    refine WL_nil ?_
    refine WQ_then ?_
    refine WP_ret ?_
    refine WQ_then_ret ?_
    replace h := Option.some.inj h
    subst h
    exact WQ_ret () rfl (.tmp rfl .nil) trivial rfl (ks := []) rfl (by decide)
  ·
    replace h := cn_f hc h
    refine WP_skip ?_
    refine WQ_then ?_
    refine WP_seq ?_
    refine WP_seq ?_
    refine WP_region ?_
    refine WL_v rfl (VS_assign rfl) ?_
    refine WL_nil ?_
    refine WQ_then ?_
    refine WP_block ?_
    obtain ⟨lb37, hlb37, h⟩ := lp1_i h
    refine WP_loops (α := Nat × Int) [2, 3, 5, 6] (.cons rfl (.cons rfl (.cons rfl (.cons rfl (.nil))))) (fun (m38, x36) => [(7, .int .i64 x36)]) (fun (m38, x36) => [.ext bs30 J31, .ext bs23 J24, .cells b3 105 cs1, .cells b2 77 cs0]) (fun (m38, x36) => loop1 lb37 m38 x36 = some r) (fun (m38, x36) => m38) (n, 0) h (Sub_cons rfl (Sub_nil)) (ks := [0, 1, 2, 3]) rfl (by decide) ?_
    rintro ⟨m38, x36⟩ h
    replace h : loop1 lb37 m38 x36 = some r := h
    replace h := lp1_s hlb37 h
    obtain ⟨m38, rfl, h⟩ := h
    refine WP_seq ?_
    refine WP_seq ?_
    refine WP_region ?_
    refine WL_v rfl (VS_move rfl) ?_
    refine WL_v rfl (VS_move rfl) ?_
    refine WL_v rfl (VS_lenF f26 rfl) ?_
    refine WL_v rfl (VS_lss rfl rfl) ?_
    refine WL_nil ?_
    refine WQ_then ?_
    refine WP_if rfl (fun hc => ?_) (fun hc => ?_)
    ·
      replace h := cn_t hc h
      refine WP_skip ?_
      refine WQ_then ?_
      refine WP_seq ?_
      refine WP_block ?_
      refine WP_seq ?_
      refine WP_seq ?_
      obtain ⟨hg40, h⟩ := gu_e h
      obtain ⟨hg41, h⟩ := gu_e h
      obtain ⟨hg42, h⟩ := gu_e h
      obtain ⟨x43, hx43, _, h⟩ := cl_e h
      refine WP_draw mixed (.fin [] [(0, [5]), (1, [7]), (2, [29, 30]), (3, [31]), (4, [32]), (5, [6]), (6, [7]), (7, [34, 35]), (8, [36]), (9, [33, 37]), (10, [38]), (11, [2, 39]), (12, [39, 40]), (13, [39, 41]), (14, [5, 39]), (15, [7, 39]), (16, [39, 43, 44]), (17, [39, 45]), (18, [39, 42, 46]), (19, [39, 47]), (20, [39, 48])]) (by kernel_rfl) ?_
      refine Stg_fin ?_ ?_
      · exact ReOk_nil
      refine NewOk_cons rfl rfl (VG_v rfl (VS_move rfl)) ?_
      refine NewOk_cons rfl rfl (VG_v rfl (VS_move rfl)) ?_
      refine NewOk_cons rfl rfl (VG_v rfl (VS_ixF (m := (Int.toNat x36)) f26 rfl rfl rfl (inb_e hg40).1 (inb_e hg40).2)) ?_
      refine NewOk_cons rfl rfl (VG_v rfl (VS_ldiF f26 (Pth.idx (L := (LI .u32)) (m := (x21.length)) (k := 1) ((Int.toNat x36)) (inb_e hg40).2 rfl) rfl)) ?_
      refine NewOk_cons rfl rfl (VG_v rfl (VS_conv rfl rfl)) ?_
      refine NewOk_cons rfl rfl (VG_v rfl (VS_move rfl)) ?_
      refine NewOk_cons rfl rfl (VG_v rfl (VS_move rfl)) ?_
      refine NewOk_cons rfl rfl (VG_v rfl (VS_ixF (m := (Int.toNat x36)) f33 rfl rfl rfl (inb_e hg41).1 (inb_e hg41).2)) ?_
      refine NewOk_cons rfl rfl (VG_v rfl (VS_ldiF f33 (Pth.idx (L := (LI .i64)) (m := (x28.length)) (k := 1) ((Int.toNat x36)) (inb_e hg41).2 rfl) rfl)) ?_
      refine NewOk_cons rfl rfl (VG_v rfl (VS_neq rfl rfl)) ?_
      refine NewOk_cons rfl rfl (VG_v rfl (VS_move rfl)) ?_
      refine NewOk_cons rfl rfl (VG_g (Gd_b rfl rfl) (fun hb => VS_field0 rfl)) ?_
      refine NewOk_cons rfl rfl (VG_g (Gd_b rfl rfl) (fun hb => VS_field0 (gev rfl hb))) ?_
      refine NewOk_cons rfl rfl (VG_g (Gd_b rfl rfl) (fun hb => VS_loadpart (gev rfl hb) (FlatL.iff.1 ((P_table_Table_book.c0 P_table_book_Book).get f0)) (enc_len _ _))) ?_
      refine NewOk_cons rfl rfl (VG_g (Gd_b rfl rfl) (fun hb => VS_move rfl)) ?_
      refine NewOk_cons rfl rfl (VG_g (Gd_b rfl rfl) (fun hb => VS_move rfl)) ?_
      refine NewOk_cons rfl rfl (VG_g (Gd_b rfl rfl) (fun hb => VS_ixF (m := (Int.toNat x36)) f26 rfl (gev rfl hb) (gev rfl hb) (inb_e (imp_b hg42 hb)).1 (inb_e (imp_b hg42 hb)).2)) ?_
      refine NewOk_cons rfl rfl (VG_g (Gd_b rfl rfl) (fun hb => VS_ldiF f26 (Pth.idx (L := (LI .u32)) (m := (x21.length)) (k := 1) ((Int.toNat x36)) (inb_e (imp_b hg42 hb)).2 rfl) (gev rfl hb))) ?_
      refine NewOk_cons rfl rfl (VG_g (Gd_b rfl rfl) (fun hb => VS_call (c_handle_Book_Good (hx43 hb)) (evs_cons (gev rfl hb) (evs_cons (gev rfl hb) rfl)) (fun _ _ _ => trivial))) ?_
      refine NewOk_cons rfl rfl (VG_g (Gd_b rfl rfl) (fun hb => VS_not (gev rfl hb))) ?_
      refine NewOk_cons rfl rfl (VG_v rfl (VS_or rfl rfl)) ?_
      refine NewOk_nil ?_
      refine WQ_then ?_
      refine WP_if rfl (fun hc => ?_) (fun hc => ?_)
      ·
        replace h := cn_t hc h
        refine WP_seq ?_
        refine WP_region ?_
        refine WL_v rfl (VS_assign rfl) ?_
        refine WL_nil ?_
        refine WQ_then ?_
        refine WP_ret ?_
        refine WQ_then_ret ?_
        refine WQ_block_ret ?_
        refine WQ_then_ret ?_
        refine WQ_then_ret ?_
        refine WQ_block_ret ?_
        refine WQ_then_ret ?_
        replace h := Option.some.inj h
        subst h
        exact WQ_ret () rfl (.tmp rfl .nil) trivial rfl (ks := []) rfl (by decide)
      ·
        replace h := cn_f hc h
        refine WP_skip ?_
        refine WQ_then ?_
        obtain ⟨hg44, h⟩ := gu_e h
        obtain ⟨x45, hx45, h⟩ := bd_e h
        refine WP_cuts (α := (List Value) × (List Nat) × (World → Prop) × Nat × (List Value)) [2, 3, 5, 6, 7] (.cons rfl (.cons rfl (.cons rfl (.cons rfl (.cons rfl (.nil)))))) (fun (c51, bs47, J48, b8, c52) => [(8, Ptr b8 0), (9, .int .i64 x45.2)]) (fun (c51, bs47, J48, b8, c52) => [.cells b8 74 c52, .ext bs47 J48, .ext bs30 J31, .ext bs23 J24, .cells b3 105 cs1, .cells b2 77 cs0]) (fun (c51, bs47, J48, b8, c52) => (L_table_Region).rep (fun w => K w ∧ Hs [.ext bs47 J48] w) c51 x45.1 ∧ (L_table_Region).rep (fun w => K w ∧ Hs [.ext bs47 J48] w) c52 x45.1) ?_ ?_
        ·
          refine WP_draw mixed (.stg [] [(0, [2]), (1, [5]), (2, [7]), (3, [52, 53]), (4, [54])] (.alt 5 [51, 55] (.stg [] [(6, [56]), (7, [50]), (8, [50])] (.alt 9 [] (.stg [(6, [56]), (7, [50]), (8, [50])] [] (.alt 10 [8, 57] (.stg [(8, [50])] [] (.alt 11 [58] (.fin [] []) .no)) .no)) .no)) (.alt 9 [] (.stg [(0, [2]), (1, [5]), (2, [7]), (3, [52, 53]), (4, [54])] [] (.alt 5 [51, 55] (.stg [] [(6, [56]), (7, [50]), (8, [50])] (.alt 10 [8, 57] (.stg [(8, [50])] [] (.alt 11 [58] (.fin [] []) .no)) .no)) .no)) .no))) (by kernel_rfl) ?_
          refine Stg_stg ?_ ?_
          · exact ReOk_nil
          refine NewOk_cons rfl rfl (VG_v rfl (VS_loadall rfl (Lay.len _ f0))) ?_
          refine NewOk_cons rfl rfl (VG_v rfl (VS_move rfl)) ?_
          refine NewOk_cons rfl rfl (VG_v rfl (VS_move rfl)) ?_
          refine NewOk_cons rfl rfl (VG_v rfl (VS_ixF (m := (Int.toNat x36)) f26 rfl rfl rfl (inb_e hg44).1 (inb_e hg44).2)) ?_
          refine NewOk_cons rfl rfl (VG_v rfl (VS_ldiF f26 (Pth.idx (L := (LI .u32)) (m := (x21.length)) (k := 1) ((Int.toNat x36)) (inb_e hg44).2 rfl) rfl)) ?_
          refine NewOk_nil ?_
          refine Stg_some rfl rfl (RG_x rfl (RX_callB (c_table_Table_Get (K := K) (Lay.mono _ ent f0) hx45) rfl)) (fun ⟨w46, bs47, J48⟩ hp49 => ?_) ?_
          ·
            obtain ⟨c51, rfl, f50⟩ := hp49
            replace f50 : (L_table_Region).rep (fun w => K w ∧ Hs [.ext bs47 J48] w) c51 x45.1 := f50
            refine Stg_stg ?_ ?_
            · exact ReOk_nil
            refine NewOk_cons rfl rfl (VG_v rfl (VS_move rfl)) ?_
            refine NewOk_cons rfl rfl (VG_v rfl (VS_extract rfl rfl)) ?_
            refine NewOk_cons rfl rfl (VG_v rfl (VS_extract rfl rfl)) ?_
            refine NewOk_nil ?_
            refine Stg_some rfl rfl (RG_x rfl (RX_alloc (hz := (⟨by kernel_rfl⟩ : TZero Try.prog 74 zc_table_Region)))) (fun b8 _ => ?_) Stg_no
            refine Stg_stg ?_ ?_
            ·
              refine ReOk_cons rfl rfl (VG_v rfl (VS_move rfl)) ?_
              refine ReOk_cons rfl rfl (VG_v rfl (VS_val (VS_extract rfl rfl) rfl)) ?_
              refine ReOk_cons rfl rfl (VG_v rfl (VS_val (VS_extract rfl rfl) rfl)) ?_
              exact ReOk_nil
            refine NewOk_nil ?_
            obtain ⟨c52, hc52, f53⟩ : ∃ cc, splice zc_table_Region 0 c51 = cc ∧ (L_table_Region).rep (fun w => K w ∧ Hs [.ext bs47 J48] w) cc x45.1 := ⟨_, rfl, (Pth.id (L := L_table_Region)).set (Lay.mono _ ent (show (L_table_Region).rep (Hs []) zc_table_Region Z_table_Region from zr_table_Region)) (Lay.mono _ ent f50)⟩
            refine Stg_none rfl (RG_x rfl (RX_stN c51 (Pth.id (L := L_table_Region)) (v := x45.1) (r := (show (L_table_Region).rep (Hs []) zc_table_Region Z_table_Region from zr_table_Region)) (rv := ((Lay.mono _ ent f50) : (L_table_Region).rep (fun w => K w ∧ Hs [.ext bs47 J48] w) c51 x45.1)) rfl rfl rfl rfl hc52)) (fun _ _ => ?_) Stg_no
            refine Stg_stg ?_ ?_
            ·
              refine ReOk_cons rfl rfl (VG_v rfl (VS_val (VS_extract rfl rfl) rfl)) ?_
              exact ReOk_nil
            refine NewOk_nil ?_
            refine Stg_some rfl rfl (RG_x rfl ((VS_assign rfl).rx)) (fun _ _ => ?_) Stg_no
            refine Stg_fin ?_ ?_
            · exact ReOk_nil
            refine NewOk_nil ?_
            exact WQ_cuts (c51, bs47, J48, b8, c52) ⟨f50, f53⟩ (Sub_cons rfl (Sub_cons rfl (Sub_nil))) (.cons rfl (.cons rfl (.cons rfl (.cons rfl (.cons rfl (.nil)))))) (ks := [0, 1, 2, 3, 4, 5]) rfl (by decide)
          refine Stg_some rfl rfl (RG_x rfl (RX_alloc (hz := (⟨by kernel_rfl⟩ : TZero Try.prog 74 zc_table_Region)))) (fun b8 _ => ?_) ?_
          ·
            refine Stg_stg ?_ ?_
            ·
              refine ReOk_cons rfl rfl (VG_v rfl (VS_val (VS_loadall rfl (Lay.len _ f0)) rfl)) ?_
              refine ReOk_cons rfl rfl (VG_v rfl (VS_move rfl)) ?_
              refine ReOk_cons rfl rfl (VG_v rfl (VS_move rfl)) ?_
              refine ReOk_cons rfl rfl (VG_v rfl (VS_val (VS_ixF (m := (Int.toNat x36)) f26 rfl rfl rfl (inb_e hg44).1 (inb_e hg44).2) rfl)) ?_
              refine ReOk_cons rfl rfl (VG_v rfl (VS_val (VS_ldiF f26 (Pth.idx (L := (LI .u32)) (m := (x21.length)) (k := 1) ((Int.toNat x36)) (inb_e hg44).2 rfl) rfl) rfl)) ?_
              exact ReOk_nil
            refine NewOk_nil ?_
            refine Stg_some rfl rfl (RG_x rfl (RX_callB (c_table_Table_Get (K := K) (Lay.mono _ ent f0) hx45) rfl)) (fun ⟨w46, bs47, J48⟩ hp49 => ?_) Stg_no
            obtain ⟨c51, rfl, f50⟩ := hp49
            replace f50 : (L_table_Region).rep (fun w => K w ∧ Hs [.ext bs47 J48] w) c51 x45.1 := f50
            refine Stg_stg ?_ ?_
            · exact ReOk_nil
            refine NewOk_cons rfl rfl (VG_v rfl (VS_move rfl)) ?_
            refine NewOk_cons rfl rfl (VG_v rfl (VS_extract rfl rfl)) ?_
            refine NewOk_cons rfl rfl (VG_v rfl (VS_extract rfl rfl)) ?_
            refine NewOk_nil ?_
            obtain ⟨c52, hc52, f53⟩ : ∃ cc, splice zc_table_Region 0 c51 = cc ∧ (L_table_Region).rep (fun w => K w ∧ Hs [.ext bs47 J48] w) cc x45.1 := ⟨_, rfl, (Pth.id (L := L_table_Region)).set (Lay.mono _ ent (show (L_table_Region).rep (Hs []) zc_table_Region Z_table_Region from zr_table_Region)) (Lay.mono _ ent f50)⟩
            refine Stg_none rfl (RG_x rfl (RX_stN c51 (Pth.id (L := L_table_Region)) (v := x45.1) (r := (show (L_table_Region).rep (Hs []) zc_table_Region Z_table_Region from zr_table_Region)) (rv := ((Lay.mono _ ent f50) : (L_table_Region).rep (fun w => K w ∧ Hs [.ext bs47 J48] w) c51 x45.1)) rfl rfl rfl rfl hc52)) (fun _ _ => ?_) Stg_no
            refine Stg_stg ?_ ?_
            ·
              refine ReOk_cons rfl rfl (VG_v rfl (VS_val (VS_extract rfl rfl) rfl)) ?_
              exact ReOk_nil
            refine NewOk_nil ?_
            refine Stg_some rfl rfl (RG_x rfl ((VS_assign rfl).rx)) (fun _ _ => ?_) Stg_no
            refine Stg_fin ?_ ?_
            · exact ReOk_nil
            refine NewOk_nil ?_
            exact WQ_cuts (c51, bs47, J48, b8, c52) ⟨f50, f53⟩ (Sub_cons rfl (Sub_cons rfl (Sub_nil))) (.cons rfl (.cons rfl (.cons rfl (.cons rfl (.cons rfl (.nil)))))) (ks := [1, 0, 2, 3, 4, 5]) rfl (by decide)
          exact Stg_no
        ·
          rintro ⟨c51, bs47, J48, b8, c52⟩ ⟨f50, f53⟩
          obtain ⟨hg54, h⟩ := gu_e h
          obtain ⟨x55, hx55, h⟩ := bd_e h
          refine WP_cuts (α := (List Value) × (List Nat) × (World → Prop) × Nat × (List Value)) [2, 3, 5, 6, 7, 8, 9] (.cons rfl (.cons rfl (.cons rfl (.cons rfl (.cons rfl (.cons rfl (.cons rfl (.nil)))))))) (fun (c61, bs57, J58, b10, c62) => [(10, Ptr b10 0)]) (fun (c61, bs57, J58, b10, c62) => [.cells b10 83 c62, .ext bs57 J58, .cells b8 74 c52, .ext bs47 J48, .ext bs30 J31, .ext bs23 J24, .cells b3 105 cs1, .cells b2 77 cs0]) (fun (c61, bs57, J58, b10, c62) => (L_ref05_Region).rep (fun w => K w ∧ Hs [.ext bs57 J58] w) c61 x55.1 ∧ (L_ref05_Region).rep (fun w => K w ∧ Hs [.ext bs57 J58] w) c62 x55.1) ?_ ?_
          ·
            refine WP_draw mixed (.stg [] [(0, [3]), (1, [6]), (2, [7]), (3, [61, 62]), (4, [63])] (.alt 5 [60, 64] (.stg [] [(6, [65]), (7, [59]), (8, [59])] (.alt 9 [] (.stg [(6, [65]), (7, [59]), (8, [59])] [] (.alt 10 [10, 66] (.stg [(8, [59])] [] (.alt 11 [67] (.fin [] []) .no)) .no)) .no)) (.alt 9 [] (.stg [(0, [3]), (1, [6]), (2, [7]), (3, [61, 62]), (4, [63])] [] (.alt 5 [60, 64] (.stg [] [(6, [65]), (7, [59]), (8, [59])] (.alt 10 [10, 66] (.stg [(8, [59])] [] (.alt 11 [67] (.fin [] []) .no)) .no)) .no)) .no))) (by kernel_rfl) ?_
            refine Stg_stg ?_ ?_
            · exact ReOk_nil
            refine NewOk_cons rfl rfl (VG_v rfl (VS_loadall rfl (Lay.len _ f1))) ?_
            refine NewOk_cons rfl rfl (VG_v rfl (VS_move rfl)) ?_
            refine NewOk_cons rfl rfl (VG_v rfl (VS_move rfl)) ?_
            refine NewOk_cons rfl rfl (VG_v rfl (VS_ixF (m := (Int.toNat x36)) f33 rfl rfl rfl (inb_e hg54).1 (inb_e hg54).2)) ?_
            refine NewOk_cons rfl rfl (VG_v rfl (VS_ldiF f33 (Pth.idx (L := (LI .i64)) (m := (x28.length)) (k := 1) ((Int.toNat x36)) (inb_e hg54).2 rfl) rfl)) ?_
            refine NewOk_nil ?_
            refine Stg_some rfl rfl (RG_x rfl (RX_callB (c_ref05_Table_Get (K := K) (Lay.mono _ ent f1) hx55) rfl)) (fun ⟨w56, bs57, J58⟩ hp59 => ?_) ?_
            ·
              obtain ⟨c61, rfl, f60⟩ := hp59
              replace f60 : (L_ref05_Region).rep (fun w => K w ∧ Hs [.ext bs57 J58] w) c61 x55.1 := f60
              refine Stg_stg ?_ ?_
              · exact ReOk_nil
              refine NewOk_cons rfl rfl (VG_v rfl (VS_move rfl)) ?_
              refine NewOk_cons rfl rfl (VG_v rfl (VS_extract rfl rfl)) ?_
              refine NewOk_cons rfl rfl (VG_v rfl (VS_extract rfl rfl)) ?_
              refine NewOk_nil ?_
              refine Stg_some rfl rfl (RG_x rfl (RX_alloc (hz := (⟨by kernel_rfl⟩ : TZero Try.prog 83 zc_ref05_Region)))) (fun b10 _ => ?_) Stg_no
              refine Stg_stg ?_ ?_
              ·
                refine ReOk_cons rfl rfl (VG_v rfl (VS_move rfl)) ?_
                refine ReOk_cons rfl rfl (VG_v rfl (VS_val (VS_extract rfl rfl) rfl)) ?_
                refine ReOk_cons rfl rfl (VG_v rfl (VS_val (VS_extract rfl rfl) rfl)) ?_
                exact ReOk_nil
              refine NewOk_nil ?_
              obtain ⟨c62, hc62, f63⟩ : ∃ cc, splice zc_ref05_Region 0 c61 = cc ∧ (L_ref05_Region).rep (fun w => K w ∧ Hs [.ext bs57 J58] w) cc x55.1 := ⟨_, rfl, (Pth.id (L := L_ref05_Region)).set (Lay.mono _ ent (show (L_ref05_Region).rep (Hs []) zc_ref05_Region Z_ref05_Region from zr_ref05_Region)) (Lay.mono _ ent f60)⟩
              refine Stg_none rfl (RG_x rfl (RX_stN c61 (Pth.id (L := L_ref05_Region)) (v := x55.1) (r := (show (L_ref05_Region).rep (Hs []) zc_ref05_Region Z_ref05_Region from zr_ref05_Region)) (rv := ((Lay.mono _ ent f60) : (L_ref05_Region).rep (fun w => K w ∧ Hs [.ext bs57 J58] w) c61 x55.1)) rfl rfl rfl rfl hc62)) (fun _ _ => ?_) Stg_no
              refine Stg_stg ?_ ?_
              ·
                refine ReOk_cons rfl rfl (VG_v rfl (VS_val (VS_extract rfl rfl) rfl)) ?_
                exact ReOk_nil
              refine NewOk_nil ?_
              refine Stg_some rfl rfl (RG_x rfl ((VS_assign rfl).rx)) (fun _ _ => ?_) Stg_no
              refine Stg_fin ?_ ?_
              · exact ReOk_nil
              refine NewOk_nil ?_
              exact WQ_cuts (c61, bs57, J58, b10, c62) ⟨f60, f63⟩ (Sub_cons rfl (Sub_nil)) (.cons rfl (.cons rfl (.cons rfl (.cons rfl (.cons rfl (.cons rfl (.cons rfl (.nil)))))))) (ks := [0, 1, 2, 3, 4, 5, 6, 7]) rfl (by decide)
            refine Stg_some rfl rfl (RG_x rfl (RX_alloc (hz := (⟨by kernel_rfl⟩ : TZero Try.prog 83 zc_ref05_Region)))) (fun b10 _ => ?_) ?_
            ·
              refine Stg_stg ?_ ?_
              ·
                refine ReOk_cons rfl rfl (VG_v rfl (VS_val (VS_loadall rfl (Lay.len _ f1)) rfl)) ?_
                refine ReOk_cons rfl rfl (VG_v rfl (VS_move rfl)) ?_
                refine ReOk_cons rfl rfl (VG_v rfl (VS_move rfl)) ?_
                refine ReOk_cons rfl rfl (VG_v rfl (VS_val (VS_ixF (m := (Int.toNat x36)) f33 rfl rfl rfl (inb_e hg54).1 (inb_e hg54).2) rfl)) ?_
                refine ReOk_cons rfl rfl (VG_v rfl (VS_val (VS_ldiF f33 (Pth.idx (L := (LI .i64)) (m := (x28.length)) (k := 1) ((Int.toNat x36)) (inb_e hg54).2 rfl) rfl) rfl)) ?_
                exact ReOk_nil
              refine NewOk_nil ?_
              refine Stg_some rfl rfl (RG_x rfl (RX_callB (c_ref05_Table_Get (K := K) (Lay.mono _ ent f1) hx55) rfl)) (fun ⟨w56, bs57, J58⟩ hp59 => ?_) Stg_no
              obtain ⟨c61, rfl, f60⟩ := hp59
              replace f60 : (L_ref05_Region).rep (fun w => K w ∧ Hs [.ext bs57 J58] w) c61 x55.1 := f60
              refine Stg_stg ?_ ?_
              · exact ReOk_nil
              refine NewOk_cons rfl rfl (VG_v rfl (VS_move rfl)) ?_
              refine NewOk_cons rfl rfl (VG_v rfl (VS_extract rfl rfl)) ?_
              refine NewOk_cons rfl rfl (VG_v rfl (VS_extract rfl rfl)) ?_
              refine NewOk_nil ?_
              obtain ⟨c62, hc62, f63⟩ : ∃ cc, splice zc_ref05_Region 0 c61 = cc ∧ (L_ref05_Region).rep (fun w => K w ∧ Hs [.ext bs57 J58] w) cc x55.1 := ⟨_, rfl, (Pth.id (L := L_ref05_Region)).set (Lay.mono _ ent (show (L_ref05_Region).rep (Hs []) zc_ref05_Region Z_ref05_Region from zr_ref05_Region)) (Lay.mono _ ent f60)⟩
              refine Stg_none rfl (RG_x rfl (RX_stN c61 (Pth.id (L := L_ref05_Region)) (v := x55.1) (r := (show (L_ref05_Region).rep (Hs []) zc_ref05_Region Z_ref05_Region from zr_ref05_Region)) (rv := ((Lay.mono _ ent f60) : (L_ref05_Region).rep (fun w => K w ∧ Hs [.ext bs57 J58] w) c61 x55.1)) rfl rfl rfl rfl hc62)) (fun _ _ => ?_) Stg_no
              refine Stg_stg ?_ ?_
              ·
                refine ReOk_cons rfl rfl (VG_v rfl (VS_val (VS_extract rfl rfl) rfl)) ?_
                exact ReOk_nil
              refine NewOk_nil ?_
              refine Stg_some rfl rfl (RG_x rfl ((VS_assign rfl).rx)) (fun _ _ => ?_) Stg_no
              refine Stg_fin ?_ ?_
              · exact ReOk_nil
              refine NewOk_nil ?_
              exact WQ_cuts (c61, bs57, J58, b10, c62) ⟨f60, f63⟩ (Sub_cons rfl (Sub_nil)) (.cons rfl (.cons rfl (.cons rfl (.cons rfl (.cons rfl (.cons rfl (.cons rfl (.nil)))))))) (ks := [1, 0, 2, 3, 4, 5, 6, 7]) rfl (by decide)
            exact Stg_no
          ·
            rintro ⟨c61, bs57, J58, b10, c62⟩ ⟨f60, f63⟩
            refine WP_seq ?_
            refine WP_seq ?_
            obtain ⟨x68, hx68, _, h⟩ := cl_e h
            refine WP_region ?_
            refine WL_v rfl (VS_move rfl) ?_
            refine WL_v rfl (VS_neq rfl rfl) ?_
            refine WL_v rfl (VS_move rfl) ?_
            refine WL_g (Gd_b rfl rfl) rfl (fun hb => VS_field0 rfl) ?_
            refine WL_g (Gd_b rfl rfl) rfl (fun hb => VS_load (gev rfl hb) (P_table_Region_Up.int f53)) ?_
            refine WL_g (Gd_b rfl rfl) rfl (fun hb => VS_conv (gev rfl hb) rfl) ?_
            refine WL_g (Gd_b rfl rfl) rfl (fun hb => VS_field0 rfl) ?_
            refine WL_g (Gd_b rfl rfl) rfl (fun hb => VS_load (gev rfl hb) (P_ref05_Region_Up.int f63)) ?_
            refine WL_g (Gd_b rfl rfl) rfl (fun hb => VS_neq (gev rfl hb) (gev rfl hb)) ?_
            refine WL_v rfl (VS_or rfl rfl) ?_
            refine WL_v rfl (VS_move rfl) ?_
            refine WL_g (Gd_b rfl rfl) rfl (fun hb => VS_field0 rfl) ?_
            refine WL_g (Gd_b rfl rfl) rfl (fun hb => VS_load (gev rfl hb) (P_table_Region_Quota.int f53)) ?_
            refine WL_g (Gd_b rfl rfl) rfl (fun hb => VS_field0 rfl) ?_
            refine WL_g (Gd_b rfl rfl) rfl (fun hb => VS_load (gev rfl hb) (P_ref05_Region_Quota.int f63)) ?_
            refine WL_g (Gd_b rfl rfl) rfl (fun hb => VS_neq (gev rfl hb) (gev rfl hb)) ?_
            refine WL_v rfl (VS_or rfl rfl) ?_
            refine WL_v rfl (VS_move rfl) ?_
            refine WL_g (Gd_b rfl rfl) rfl (fun hb => VS_field0 rfl) ?_
            obtain ⟨c64, hc64, f65⟩ := rep_ex (P_table_Region_E.get f53)
            refine WL_g (Gd_b rfl rfl) rfl (fun hb => VS_loadpart (gev rfl hb) hc64 (Lay.len _ f65)) ?_
            refine WL_g (Gd_b rfl rfl) rfl (fun hb => VS_field0 rfl) ?_
            obtain ⟨c66, hc66, f67⟩ := rep_ex (P_ref05_Region_E.get f63)
            refine WL_g (Gd_b rfl rfl) rfl (fun hb => VS_loadpart (gev rfl hb) hc66 (Lay.len _ f67)) ?_
            refine WL_g (Gd_b rfl rfl) rfl (fun hb => VS_call (c_law04_Same (K := (fun w => K w ∧ Hs [.ext bs47 J48, .ext bs57 J58] w)) (Lay.mono _ ent f65) (Lay.mono _ ent f67) (hx68 hb)) (evs_cons (gev rfl hb) (evs_cons (gev rfl hb) rfl)) kn) ?_
            refine WL_g (Gd_b rfl rfl) rfl (fun hb => VS_not (gev rfl hb)) ?_
            refine WL_v rfl (VS_or rfl rfl) ?_
            refine WL_nil ?_
            refine WQ_then ?_
            refine WP_if rfl (fun hc => ?_) (fun hc => ?_)
            ·
              replace h := cn_t hc h
              refine WP_seq ?_
              refine WP_region ?_
              refine WL_v rfl (VS_assign rfl) ?_
              refine WL_nil ?_
              refine WQ_then ?_
              refine WP_ret ?_
              refine WQ_then_ret ?_
              refine WQ_block_ret ?_
              refine WQ_then_ret ?_
              refine WQ_then_ret ?_
              refine WQ_block_ret ?_
              refine WQ_then_ret ?_
              replace h := Option.some.inj h
              subst h
              exact WQ_ret () rfl (.tmp rfl .nil) trivial rfl (ks := []) rfl (by decide)
            ·
              replace h := cn_f hc h
              refine WP_skip ?_
              refine WQ_then ?_
              refine WP_seq ?_
              refine WP_region ?_
              refine WL_v rfl (VS_assign rfl) ?_
              refine WL_nil ?_
              refine WQ_then ?_
              refine WP_block ?_
              obtain ⟨lb71, hlb71, h⟩ := lp1_i h
              refine WP_loops (α := Nat × Int) [2, 3, 5, 6, 7, 8, 10] (.cons rfl (.cons rfl (.cons rfl (.cons rfl (.cons rfl (.cons rfl (.cons rfl (.nil)))))))) (fun (m72, x70) => [(12, .int .i64 x70)]) (fun (m72, x70) => [.cells b10 83 c62, .ext bs57 J58, .cells b8 74 c52, .ext bs47 J48, .ext bs30 J31, .ext bs23 J24, .cells b3 105 cs1, .cells b2 77 cs0]) (fun (m72, x70) => loop1 lb71 m72 x70 = some r) (fun (m72, x70) => m72) (n, 0) h (Sub_cons rfl (Sub_nil)) (ks := [0, 1, 2, 3, 4, 5, 6, 7]) rfl (by decide) ?_
              rintro ⟨m72, x70⟩ h
              replace h : loop1 lb71 m72 x70 = some r := h
              replace h := lp1_s hlb71 h
              obtain ⟨m72, rfl, h⟩ := h
              refine WP_seq ?_
              refine WP_seq ?_
              refine WP_region ?_
              refine WL_v rfl (VS_move rfl) ?_
              refine WL_v rfl (VS_lss rfl rfl) ?_
              refine WL_nil ?_
              refine WQ_then ?_
              refine WP_if rfl (fun hc => ?_) (fun hc => ?_)
              ·
                replace h := cn_t hc h
                refine WP_skip ?_
                refine WQ_then ?_
                refine WP_seq ?_
                refine WP_block ?_
                refine WP_seq ?_
                obtain ⟨hg74, h⟩ := gu_e h
                obtain ⟨hg75, h⟩ := gu_e h
                refine WP_draw mixed (.fin [] [(0, [12]), (1, [8]), (2, [97, 98]), (3, [99]), (4, [100]), (5, [12]), (6, [10]), (7, [102, 103]), (8, [104]), (9, [101, 105])]) (by kernel_rfl) ?_
                refine Stg_fin ?_ ?_
                · exact ReOk_nil
                refine NewOk_cons rfl rfl (VG_v rfl (VS_move rfl)) ?_
                refine NewOk_cons rfl rfl (VG_v rfl (VS_field0 rfl)) ?_
                refine NewOk_cons rfl rfl (VG_v rfl (VS_index (m := (Int.toNat x70)) rfl rfl (inb_e hg74).1 (inb_e hg74).2)) ?_
                refine NewOk_cons rfl rfl (VG_v rfl (VS_load rfl ((P_table_Region_Cells.comp (Pth.idx (L := (LI .u32)) (m := 8) (k := 1) ((Int.toNat x70)) (inb_e hg74).2 rfl)).int f53))) ?_
                refine NewOk_cons rfl rfl (VG_v rfl (VS_conv rfl rfl)) ?_
                refine NewOk_cons rfl rfl (VG_v rfl (VS_move rfl)) ?_
                refine NewOk_cons rfl rfl (VG_v rfl (VS_field0 rfl)) ?_
                refine NewOk_cons rfl rfl (VG_v rfl (VS_index (m := (Int.toNat x70)) rfl rfl (inb_e hg75).1 (inb_e hg75).2)) ?_
                refine NewOk_cons rfl rfl (VG_v rfl (VS_load rfl ((P_ref05_Region_Cells.comp (Pth.idx (L := (LI .i64)) (m := 8) (k := 1) ((Int.toNat x70)) (inb_e hg75).2 rfl)).int f63))) ?_
                refine NewOk_cons rfl rfl (VG_v rfl (VS_neq rfl rfl)) ?_
                refine NewOk_nil ?_
                refine WQ_then ?_
                refine WP_if rfl (fun hc => ?_) (fun hc => ?_)
                ·
                  replace h := cn_t hc h
                  refine WP_seq ?_
                  refine WP_region ?_
                  refine WL_v rfl (VS_assign rfl) ?_
                  refine WL_nil ?_
                  refine WQ_then ?_
                  refine WP_ret ?_
                  refine WQ_block_ret ?_
                  refine WQ_then_ret ?_
                  refine WQ_then_ret ?_
                  refine WQ_block_ret ?_
                  refine WQ_block_ret ?_
                  refine WQ_then_ret ?_
                  refine WQ_then_ret ?_
                  refine WQ_block_ret ?_
                  refine WQ_then_ret ?_
                  replace h := Option.some.inj h
                  subst h
                  exact WQ_ret () rfl (.tmp rfl .nil) trivial rfl (ks := []) rfl (by decide)
                ·
                  replace h := cn_f hc h
                  refine WP_skip ?_
                  refine WQ_block ?_
                  refine WQ_then ?_
                  refine WP_region ?_
                  refine WL_v rfl (VS_move rfl) ?_
                  refine WL_v rfl (VS_add rfl rfl rfl) ?_
                  refine WL_v rfl (VS_assign rfl) ?_
                  refine WL_nil ?_
                  exact WQ_loops (m72, wr .i64 (x70 + 1)) (Nat.lt_succ_self _) h (Sub_cons rfl (Sub_nil)) (.cons rfl (.cons rfl (.cons rfl (.cons rfl (.cons rfl (.cons rfl (.cons rfl (.nil)))))))) (ks := [0, 1, 2, 3, 4, 5, 6, 7]) rfl (by decide)
              ·
                replace h := cn_f hc h
                refine WP_exit ?_
                refine WQ_then_exit ?_
                refine WQ_then_exit ?_
                refine WQ_block_exit ?_
                refine WQ_block ?_
                refine WQ_then ?_
                refine WP_region ?_
                refine WL_v rfl (VS_move rfl) ?_
                refine WL_v rfl (VS_add rfl rfl rfl) ?_
                refine WL_v rfl (VS_assign rfl) ?_
                refine WL_nil ?_
                exact WQ_loops (m38, wr .i64 (x36 + 1)) (Nat.lt_succ_self _) h (Sub_cons rfl (Sub_nil)) (.cons rfl (.cons rfl (.cons rfl (.cons rfl (.nil))))) (ks := [4, 5, 6, 7]) rfl (by decide)
    ·
      replace h := cn_f hc h
      refine WP_exit ?_
      refine WQ_then_exit ?_
      refine WQ_then_exit ?_
      refine WQ_block_exit ?_
      refine WQ_then ?_
      refine WP_seq ?_
      refine WP_region ?_
      refine WL_v rfl (VS_assign rfl) ?_
      refine WL_nil ?_
      refine WQ_then ?_
      refine WP_ret ?_
      replace h := Option.some.inj h
      subst h
      exact WQ_ret () rfl (.tmp rfl .nil) trivial rfl (ks := []) rfl (by decide)
def law05_wakes (n : Nat)  : Option Bool :=
  bd (table_Table_New n Z_table_Table 0 4) fun x21 =>
  bd (table_Table_New n x21.1 1 2) fun x30 =>
  bd (table_Table_Raise n x30.1 1 2) fun x39 =>
  bd (table_Table_Drop n x30.1 1) fun x48 =>
  bd (table_Table_Get n x48.1 2) fun x57 =>
  bd (table_Table_Get n x30.1 2) fun x66 =>
  cl (((((((((((x21.2.1 == 1) && (x21.2.2 == 0)) && (x30.2.1 == 2)) && (x30.2.2 == 0)) && (x39.2 == 12)) && (x48.2 == 0)) && (x57.2 == 0)) && (x57.1.Up == 0)) && (x57.1.Quota == 2)) && (x66.1.Up == 1)) == true) (handle_Book_Good n x48.1.book.Book 1) default fun x75 =>
  cl ((((((((((((x21.2.1 == 1) && (x21.2.2 == 0)) && (x30.2.1 == 2)) && (x30.2.2 == 0)) && (x39.2 == 12)) && (x48.2 == 0)) && (x57.2 == 0)) && (x57.1.Up == 0)) && (x57.1.Quota == 2)) && (x66.1.Up == 1)) && (!x75)) == true) (handle_Book_Good n x30.1.book.Book 1) default fun x76 =>
  some ((((((((((((x21.2.1 == 1) && (x21.2.2 == 0)) && (x30.2.1 == 2)) && (x30.2.2 == 0)) && (x39.2 == 12)) && (x48.2 == 0)) && (x57.2 == 0)) && (x57.1.Up == 0)) && (x57.1.Quota == 2)) && (x66.1.Up == 1)) && (!x75)) && x76)
theorem c_law05_wakes {n : Nat}  {r : Bool}  (h : law05_wakes n  = some r) : FnV Try.prog 32 [] (.bool r) := by
  unfold law05_wakes at h
  refine fn_of Try.func32 (by kernel_rfl) rfl Try.ntmps32 rfl (fun cx hbs hpre hro => ?_)
  refine WP_seq ?_
  refine WP_region ?_
  refine WL_v rfl (VS_assign rfl) ?_
  refine WL_nil ?_
  refine WQ_then ?_
  refine WP_seq ?_
  refine WP_region ?_
  refine WL_x rfl (RX_alloc (hz := (⟨by kernel_rfl⟩ : TZero Try.prog 77 zc_table_Table))) (fun b1 _ => ?_)
  refine WL_nil ?_
  refine WQ_then ?_
  refine WP_seq ?_
  obtain ⟨x21, hx21, h⟩ := bd_e h
  refine WP_region ?_
  refine WL_v rfl (VS_loadall rfl (Lay.len _ (show (L_table_Table).rep (Hs []) zc_table_Table Z_table_Table from zr_table_Table))) ?_
  refine WL_x rfl (RX_callB (c_table_Table_New (K := (Hs [])) (Lay.mono _ ent (show (L_table_Table).rep (Hs []) zc_table_Table Z_table_Table from zr_table_Table)) hx21) rfl) (fun ⟨w22, bs23, J24⟩ hp25 => ?_)
  obtain ⟨c27, rfl, f26⟩ := hp25
  replace f26 : (L_table_Table).rep (fun w => (Hs []) w ∧ Hs [.ext bs23 J24] w) c27 x21.1 := f26
  refine WL_v rfl (VS_move rfl) ?_
  refine WL_v rfl (VS_extract rfl rfl) ?_
  refine WL_v rfl (VS_extract rfl rfl) ?_
  refine WL_v rfl (VS_extract rfl rfl) ?_
  obtain ⟨c28, hc28, f29⟩ : ∃ cc, splice zc_table_Table 0 c27 = cc ∧ (L_table_Table).rep (Hs [.ext bs23 J24]) cc x21.1 := ⟨_, rfl, (Pth.id (L := L_table_Table)).set (Lay.mono _ ent (show (L_table_Table).rep (Hs []) zc_table_Table Z_table_Table from zr_table_Table)) (Lay.mono _ ent f26)⟩
  refine WL_x0 (RX_stN c27 (Pth.id (L := L_table_Table)) (v := x21.1) (r := (show (L_table_Table).rep (Hs []) zc_table_Table Z_table_Table from zr_table_Table)) (rv := ((Lay.mono _ ent f26) : (L_table_Table).rep (Hs [.ext bs23 J24]) c27 x21.1)) rfl rfl rfl rfl hc28) (fun _ _ => ?_)
  refine WL_v rfl (VS_assign rfl) ?_
  refine WL_v rfl (VS_assign rfl) ?_
  refine WL_nil ?_
  refine WQ_then ?_
  refine WP_seq ?_
  obtain ⟨x30, hx30, h⟩ := bd_e h
  refine WP_region ?_
  refine WL_v rfl (VS_loadall rfl (Lay.len _ f29)) ?_
  refine WL_x rfl (RX_callB (c_table_Table_New (K := (Hs [.ext bs23 J24])) (Lay.mono _ ent f29) hx30) rfl) (fun ⟨w31, bs32, J33⟩ hp34 => ?_)
  obtain ⟨c36, rfl, f35⟩ := hp34
  replace f35 : (L_table_Table).rep (fun w => (Hs [.ext bs23 J24]) w ∧ Hs [.ext bs32 J33] w) c36 x30.1 := f35
  refine WL_v rfl (VS_move rfl) ?_
  refine WL_v rfl (VS_extract rfl rfl) ?_
  refine WL_v rfl (VS_extract rfl rfl) ?_
  refine WL_v rfl (VS_extract rfl rfl) ?_
  obtain ⟨c37, hc37, f38⟩ : ∃ cc, splice c28 0 c36 = cc ∧ (L_table_Table).rep (Hs [.ext bs23 J24, .ext bs32 J33]) cc x30.1 := ⟨_, rfl, (Pth.id (L := L_table_Table)).set (Lay.mono _ ent f29) (Lay.mono _ ent f35)⟩
  refine WL_x0 (RX_stN c36 (Pth.id (L := L_table_Table)) (v := x30.1) (r := f29) (rv := ((Lay.mono _ ent f35) : (L_table_Table).rep (Hs [.ext bs23 J24, .ext bs32 J33]) c36 x30.1)) rfl rfl rfl rfl hc37) (fun _ _ => ?_)
  refine WL_v rfl (VS_assign rfl) ?_
  refine WL_v rfl (VS_assign rfl) ?_
  refine WL_nil ?_
  refine WQ_then ?_
  refine WP_seq ?_
  obtain ⟨x39, hx39, h⟩ := bd_e h
  refine WP_region ?_
  refine WL_v rfl (VS_loadall rfl (Lay.len _ f38)) ?_
  refine WL_x rfl (RX_callB (c_table_Table_Raise (K := (Hs [.ext bs23 J24, .ext bs32 J33])) (Lay.mono _ ent f38) hx39) rfl) (fun ⟨w40, bs41, J42⟩ hp43 => ?_)
  obtain ⟨c45, rfl, f44⟩ := hp43
  replace f44 : (L_table_Table).rep (fun w => (Hs [.ext bs23 J24, .ext bs32 J33]) w ∧ Hs [.ext bs41 J42] w) c45 x39.1 := f44
  refine WL_v rfl (VS_move rfl) ?_
  refine WL_v rfl (VS_extract rfl rfl) ?_
  refine WL_v rfl (VS_extract rfl rfl) ?_
  refine WL_x rfl (RX_alloc (hz := (⟨by kernel_rfl⟩ : TZero Try.prog 77 zc_table_Table))) (fun b6 _ => ?_)
  obtain ⟨c46, hc46, f47⟩ : ∃ cc, splice zc_table_Table 0 c45 = cc ∧ (L_table_Table).rep (Hs [.ext bs23 J24, .ext bs32 J33, .ext bs41 J42]) cc x39.1 := ⟨_, rfl, (Pth.id (L := L_table_Table)).set (Lay.mono _ ent (show (L_table_Table).rep (Hs []) zc_table_Table Z_table_Table from zr_table_Table)) (Lay.mono _ ent f44)⟩
  refine WL_x0 (RX_stN c45 (Pth.id (L := L_table_Table)) (v := x39.1) (r := (show (L_table_Table).rep (Hs []) zc_table_Table Z_table_Table from zr_table_Table)) (rv := ((Lay.mono _ ent f44) : (L_table_Table).rep (Hs [.ext bs23 J24, .ext bs32 J33, .ext bs41 J42]) c45 x39.1)) rfl rfl rfl rfl hc46) (fun _ _ => ?_)
  refine WL_v rfl (VS_assign rfl) ?_
  refine WL_nil ?_
  refine WQ_then ?_
  refine WP_seq ?_
  obtain ⟨x48, hx48, h⟩ := bd_e h
  refine WP_region ?_
  refine WL_v rfl (VS_loadall rfl (Lay.len _ f38)) ?_
  refine WL_x rfl (RX_callB (c_table_Table_Drop (K := (Hs [.ext bs23 J24, .ext bs32 J33])) (Lay.mono _ ent f38) hx48) rfl) (fun ⟨w49, bs50, J51⟩ hp52 => ?_)
  obtain ⟨c54, rfl, f53⟩ := hp52
  replace f53 : (L_table_Table).rep (fun w => (Hs [.ext bs23 J24, .ext bs32 J33]) w ∧ Hs [.ext bs50 J51] w) c54 x48.1 := f53
  refine WL_v rfl (VS_move rfl) ?_
  refine WL_v rfl (VS_extract rfl rfl) ?_
  refine WL_v rfl (VS_extract rfl rfl) ?_
  refine WL_x rfl (RX_alloc (hz := (⟨by kernel_rfl⟩ : TZero Try.prog 77 zc_table_Table))) (fun b8 _ => ?_)
  obtain ⟨c55, hc55, f56⟩ : ∃ cc, splice zc_table_Table 0 c54 = cc ∧ (L_table_Table).rep (Hs [.ext bs23 J24, .ext bs32 J33, .ext bs50 J51]) cc x48.1 := ⟨_, rfl, (Pth.id (L := L_table_Table)).set (Lay.mono _ ent (show (L_table_Table).rep (Hs []) zc_table_Table Z_table_Table from zr_table_Table)) (Lay.mono _ ent f53)⟩
  refine WL_x0 (RX_stN c54 (Pth.id (L := L_table_Table)) (v := x48.1) (r := (show (L_table_Table).rep (Hs []) zc_table_Table Z_table_Table from zr_table_Table)) (rv := ((Lay.mono _ ent f53) : (L_table_Table).rep (Hs [.ext bs23 J24, .ext bs32 J33, .ext bs50 J51]) c54 x48.1)) rfl rfl rfl rfl hc55) (fun _ _ => ?_)
  refine WL_v rfl (VS_assign rfl) ?_
  refine WL_nil ?_
  refine WQ_then ?_
  refine WP_seq ?_
  obtain ⟨x57, hx57, h⟩ := bd_e h
  refine WP_region ?_
  refine WL_v rfl (VS_loadall rfl (Lay.len _ f56)) ?_
  refine WL_x rfl (RX_callB (c_table_Table_Get (K := (Hs [.ext bs23 J24, .ext bs32 J33, .ext bs50 J51])) (Lay.mono _ ent f56) hx57) rfl) (fun ⟨w58, bs59, J60⟩ hp61 => ?_)
  obtain ⟨c63, rfl, f62⟩ := hp61
  replace f62 : (L_table_Region).rep (fun w => (Hs [.ext bs23 J24, .ext bs32 J33, .ext bs50 J51]) w ∧ Hs [.ext bs59 J60] w) c63 x57.1 := f62
  refine WL_v rfl (VS_move rfl) ?_
  refine WL_v rfl (VS_extract rfl rfl) ?_
  refine WL_v rfl (VS_extract rfl rfl) ?_
  refine WL_x rfl (RX_alloc (hz := (⟨by kernel_rfl⟩ : TZero Try.prog 74 zc_table_Region))) (fun b10 _ => ?_)
  obtain ⟨c64, hc64, f65⟩ : ∃ cc, splice zc_table_Region 0 c63 = cc ∧ (L_table_Region).rep (Hs [.ext bs23 J24, .ext bs32 J33, .ext bs50 J51, .ext bs59 J60]) cc x57.1 := ⟨_, rfl, (Pth.id (L := L_table_Region)).set (Lay.mono _ ent (show (L_table_Region).rep (Hs []) zc_table_Region Z_table_Region from zr_table_Region)) (Lay.mono _ ent f62)⟩
  refine WL_x0 (RX_stN c63 (Pth.id (L := L_table_Region)) (v := x57.1) (r := (show (L_table_Region).rep (Hs []) zc_table_Region Z_table_Region from zr_table_Region)) (rv := ((Lay.mono _ ent f62) : (L_table_Region).rep (Hs [.ext bs23 J24, .ext bs32 J33, .ext bs50 J51, .ext bs59 J60]) c63 x57.1)) rfl rfl rfl rfl hc64) (fun _ _ => ?_)
  refine WL_v rfl (VS_assign rfl) ?_
  refine WL_nil ?_
  refine WQ_then ?_
  refine WP_seq ?_
  obtain ⟨x66, hx66, h⟩ := bd_e h
  refine WP_region ?_
  refine WL_v rfl (VS_loadall rfl (Lay.len _ f38)) ?_
  refine WL_x rfl (RX_callB (c_table_Table_Get (K := (Hs [.ext bs23 J24, .ext bs32 J33])) (Lay.mono _ ent f38) hx66) rfl) (fun ⟨w67, bs68, J69⟩ hp70 => ?_)
  obtain ⟨c72, rfl, f71⟩ := hp70
  replace f71 : (L_table_Region).rep (fun w => (Hs [.ext bs23 J24, .ext bs32 J33]) w ∧ Hs [.ext bs68 J69] w) c72 x66.1 := f71
  refine WL_v rfl (VS_move rfl) ?_
  refine WL_v rfl (VS_extract rfl rfl) ?_
  refine WL_v rfl (VS_extract rfl rfl) ?_
  refine WL_x rfl (RX_alloc (hz := (⟨by kernel_rfl⟩ : TZero Try.prog 74 zc_table_Region))) (fun b12 _ => ?_)
  obtain ⟨c73, hc73, f74⟩ : ∃ cc, splice zc_table_Region 0 c72 = cc ∧ (L_table_Region).rep (Hs [.ext bs23 J24, .ext bs32 J33, .ext bs68 J69]) cc x66.1 := ⟨_, rfl, (Pth.id (L := L_table_Region)).set (Lay.mono _ ent (show (L_table_Region).rep (Hs []) zc_table_Region Z_table_Region from zr_table_Region)) (Lay.mono _ ent f71)⟩
  refine WL_x0 (RX_stN c72 (Pth.id (L := L_table_Region)) (v := x66.1) (r := (show (L_table_Region).rep (Hs []) zc_table_Region Z_table_Region from zr_table_Region)) (rv := ((Lay.mono _ ent f71) : (L_table_Region).rep (Hs [.ext bs23 J24, .ext bs32 J33, .ext bs68 J69]) c72 x66.1)) rfl rfl rfl rfl hc73) (fun _ _ => ?_)
  refine WL_v rfl (VS_assign rfl) ?_
  refine WL_nil ?_
  refine WQ_then ?_
  refine WP_seq ?_
  obtain ⟨x75, hx75, _, h⟩ := cl_e h
  obtain ⟨x76, hx76, _, h⟩ := cl_e h
  refine WP_region ?_
  refine WL_v rfl (VS_move rfl) ?_
  refine WL_v rfl (VS_eql rfl rfl) ?_
  refine WL_v rfl (VS_move rfl) ?_
  refine WL_g (Gd_b rfl rfl) rfl (fun hb => VS_move rfl) ?_
  refine WL_g (Gd_b rfl rfl) rfl (fun hb => VS_eql (gev rfl hb) rfl) ?_
  refine WL_v rfl (VS_and rfl rfl) ?_
  refine WL_v rfl (VS_move rfl) ?_
  refine WL_g (Gd_b rfl rfl) rfl (fun hb => VS_move rfl) ?_
  refine WL_g (Gd_b rfl rfl) rfl (fun hb => VS_eql (gev rfl hb) rfl) ?_
  refine WL_v rfl (VS_and rfl rfl) ?_
  refine WL_v rfl (VS_move rfl) ?_
  refine WL_g (Gd_b rfl rfl) rfl (fun hb => VS_move rfl) ?_
  refine WL_g (Gd_b rfl rfl) rfl (fun hb => VS_eql (gev rfl hb) rfl) ?_
  refine WL_v rfl (VS_and rfl rfl) ?_
  refine WL_v rfl (VS_move rfl) ?_
  refine WL_g (Gd_b rfl rfl) rfl (fun hb => VS_move rfl) ?_
  refine WL_g (Gd_b rfl rfl) rfl (fun hb => VS_eql (gev rfl hb) rfl) ?_
  refine WL_v rfl (VS_and rfl rfl) ?_
  refine WL_v rfl (VS_move rfl) ?_
  refine WL_g (Gd_b rfl rfl) rfl (fun hb => VS_move rfl) ?_
  refine WL_g (Gd_b rfl rfl) rfl (fun hb => VS_eql (gev rfl hb) rfl) ?_
  refine WL_v rfl (VS_and rfl rfl) ?_
  refine WL_v rfl (VS_move rfl) ?_
  refine WL_g (Gd_b rfl rfl) rfl (fun hb => VS_move rfl) ?_
  refine WL_g (Gd_b rfl rfl) rfl (fun hb => VS_eql (gev rfl hb) rfl) ?_
  refine WL_v rfl (VS_and rfl rfl) ?_
  refine WL_v rfl (VS_move rfl) ?_
  refine WL_g (Gd_b rfl rfl) rfl (fun hb => VS_field0 rfl) ?_
  refine WL_g (Gd_b rfl rfl) rfl (fun hb => VS_load (gev rfl hb) (P_table_Region_Up.int f65)) ?_
  refine WL_g (Gd_b rfl rfl) rfl (fun hb => VS_eql (gev rfl hb) rfl) ?_
  refine WL_v rfl (VS_and rfl rfl) ?_
  refine WL_v rfl (VS_move rfl) ?_
  refine WL_g (Gd_b rfl rfl) rfl (fun hb => VS_field0 rfl) ?_
  refine WL_g (Gd_b rfl rfl) rfl (fun hb => VS_load (gev rfl hb) (P_table_Region_Quota.int f65)) ?_
  refine WL_g (Gd_b rfl rfl) rfl (fun hb => VS_eql (gev rfl hb) rfl) ?_
  refine WL_v rfl (VS_and rfl rfl) ?_
  refine WL_v rfl (VS_move rfl) ?_
  refine WL_g (Gd_b rfl rfl) rfl (fun hb => VS_field0 rfl) ?_
  refine WL_g (Gd_b rfl rfl) rfl (fun hb => VS_load (gev rfl hb) (P_table_Region_Up.int f74)) ?_
  refine WL_g (Gd_b rfl rfl) rfl (fun hb => VS_eql (gev rfl hb) rfl) ?_
  refine WL_v rfl (VS_and rfl rfl) ?_
  refine WL_v rfl (VS_move rfl) ?_
  refine WL_g (Gd_b rfl rfl) rfl (fun hb => VS_field0 rfl) ?_
  refine WL_g (Gd_b rfl rfl) rfl (fun hb => VS_field0 (gev rfl hb)) ?_
  refine WL_g (Gd_b rfl rfl) rfl (fun hb => VS_loadpart (gev rfl hb) (FlatL.iff.1 ((P_table_Table_book.c0 P_table_book_Book).get f56)) (enc_len _ _)) ?_
  refine WL_g (Gd_b rfl rfl) rfl (fun hb => VS_call (c_handle_Book_Good (hx75 hb)) (evs_cons (gev rfl hb) (evs_cons rfl rfl)) (fun _ _ _ => trivial)) ?_
  refine WL_g (Gd_b rfl rfl) rfl (fun hb => VS_not (gev rfl hb)) ?_
  refine WL_v rfl (VS_and rfl rfl) ?_
  refine WL_v rfl (VS_move rfl) ?_
  refine WL_g (Gd_b rfl rfl) rfl (fun hb => VS_field0 rfl) ?_
  refine WL_g (Gd_b rfl rfl) rfl (fun hb => VS_field0 (gev rfl hb)) ?_
  refine WL_g (Gd_b rfl rfl) rfl (fun hb => VS_loadpart (gev rfl hb) (FlatL.iff.1 ((P_table_Table_book.c0 P_table_book_Book).get f38)) (enc_len _ _)) ?_
  refine WL_g (Gd_b rfl rfl) rfl (fun hb => VS_call (c_handle_Book_Good (hx76 hb)) (evs_cons (gev rfl hb) (evs_cons rfl rfl)) (fun _ _ _ => trivial)) ?_
  refine WL_v rfl (VS_and rfl rfl) ?_
  refine WL_v rfl (VS_assign rfl) ?_
  refine WL_nil ?_
  refine WQ_then ?_
  refine WP_ret ?_
  replace h := Option.some.inj h
  subst h
  exact WQ_ret () rfl (.tmp rfl .nil) trivial rfl (ks := []) rfl (by decide)
def table_Aged (n : Nat) (a0 : (List Int)) : Option table_Table :=
  bd (handle_Aged n a0) fun x21 =>
  lt ({ Book := x21 } : table_book) fun x22 =>
  lt ({ book := x22, regions := (fun _ => Z_table_Region) } : table_Table) fun x23 =>
  some x23
theorem c_table_Aged {n : Nat} {a0 : (List Int)} {r : table_Table} {K : World → Prop} [Stable K] {v0 : Value} (f0 : Fz K v0 (LI .u32) a0) (h : table_Aged n a0 = some r) : FnB Try.prog 40 [v0] K (fun J v => ∃ u0, v = (.agg u0.toArray) ∧ (L_table_Table).rep (fun w => K w ∧ J w) u0 (r)) := by
  unfold table_Aged at h
  refine fn_of Try.func40 (by kernel_rfl) rfl Try.ntmps40 rfl (fun cx hbs hpre hro => ?_)
  haveI := knf_pre hbs hpre
  refine WP_seq ?_
  refine WP_region ?_
  refine WL_x rfl (RX_alloc (hz := (⟨by kernel_rfl⟩ : TZero Try.prog 77 zc_table_Table))) (fun b2 _ => ?_)
  refine WL_nil ?_
  refine WQ_then ?_
  refine WP_seq ?_
  obtain ⟨x21, hx21, h⟩ := bd_e h
  obtain ⟨x22, hx22, h⟩ := lt_e h
  obtain ⟨x23, hx23, h⟩ := lt_e h
  refine WP_region ?_
  refine WL_v rfl (VS_move rfl) ?_
  refine WL_v rfl (VS_call (c_handle_Aged (K := K) (f0.mono ent) hx21) rfl kn) ?_
  refine WL_v rfl (VS_build (cs := L_table_book.enc x22) rfl (by rw [hx22]; kernel_rfl)) ?_
  obtain ⟨c24, hc24, f25⟩ : ∃ cc, ((L_table_book.enc x22) ++ (flat (fun _ => zc_table_Region) 32)) = cc ∧ (L_table_Table).rep (Hs []) cc x23 := ⟨_, rfl, by rw [hx23]; exact ⟨_, _, rfl, (FlatL.iff.2 rfl), ⟨_, rfl, fun _ _ => zr_table_Region⟩⟩⟩
  refine WL_v rfl (VS_build (cs := c24) rfl (by rw [← hc24]; kernel_rfl)) ?_
  obtain ⟨c26, hc26, f27⟩ : ∃ cc, splice zc_table_Table 0 c24 = cc ∧ (L_table_Table).rep (Hs []) cc x23 := ⟨_, rfl, (Pth.id (L := L_table_Table)).set (Lay.mono _ ent (show (L_table_Table).rep (Hs []) zc_table_Table Z_table_Table from zr_table_Table)) (Lay.mono _ ent f25)⟩
  refine WL_x0 (RX_stN c24 (Pth.id (L := L_table_Table)) (v := x23) (r := (show (L_table_Table).rep (Hs []) zc_table_Table Z_table_Table from zr_table_Table)) (rv := ((Lay.mono _ ent f25) : (L_table_Table).rep (Hs []) c24 x23)) rfl rfl rfl rfl hc26) (fun _ _ => ?_)
  refine WL_nil ?_
  refine WQ_then ?_
  refine WP_ret ?_
  replace h := Option.some.inj h
  subst h
  refine WQ_bundle (R := []) (H' := [.cells b2 77 c26]) (ks := [0]) rfl (by decide) ?_
  have p28 : (L_table_Table).rep (fun w => K w ∧ (Hs [.ext (blks []) (Hs [])]) w) c26 x23 := Lay.mono _ ent f27
  exact WQ_ret (.agg c26.toArray, blks [], Hs []) rfl (.agg rfl inferInstance inferInstance (Lay.len _ f27) .nil) ⟨_, rfl, p28⟩ rfl (ks := [0]) rfl (by decide)
def law05_TablePlays (n : Nat) (a0 : (List Int)) (a1 : (List law05_Act)) (a2 : Int) : Option Bool :=
  bd (law05_Great n a1) fun x21 =>
  cn ((x21 || decide (100 < (a0.length : Int)))) (
  bd (law05_wakes n ) fun x22 =>
  some x22) (
  bd (table_Aged n a0) fun x23 =>
  bd (ref03_Aged n a0) fun x30 =>
  lt ({ B := x30, R := (fun _ => Z_ref05_Region) } : ref05_Table) fun x31 =>
  loop5 (fun k75 (x60 : Int) (x61 : ref05_Table) (x64 : table_Table) (x67 : ref05_Table) (x70 : table_Table) =>
  cn (decide (x60 < (a1.length : Int))) (
  gu (inb x60 a1.length) <|
  bd (law05_Does n x70 x67 (a1.getD (Int.toNat x60) default)) fun x79 =>
  cn ((!x79.2.2)) (
  some false) (
  cn ((x60 == (wr .i64 (Int.tdiv (a1.length : Int) 2)))) (
  k75 (wr .i64 (x60 + 1)) x79.2.1 x79.1 x79.2.1 x79.1) (
  k75 (wr .i64 (x60 + 1)) x61 x64 x79.2.1 x79.1))) (
  bd (table_Table_Get n x70 a2) fun x96 =>
  bd (law05_Same n x70 x67) fun x105 =>
  cl (x105 == true) (law05_Same n x64 x61) default fun x106 =>
  cl ((x105 && x106) == true) (handle_Book_Good n x70.book.Book a2) default fun x107 =>
  cl ((x105 && x106) == true) (ref05_Table_Good n x67 (wr .i64 a2)) default fun x108 =>
  cl (((x105 && x106) && (x107 == x108)) == true) (ref05_Table_Good n x67 (wr .i64 a2)) default fun x109 =>
  cl (((((x105 && x106) && (x107 == x108)) && ((x96.2 == 0) == x109)) && ((x96.2 == 0) || (x96.2 == 4))) == true) (law05_wakes n ) default fun x110 =>
  some (((((x105 && x106) && (x107 == x108)) && ((x96.2 == 0) == x109)) && ((x96.2 == 0) || (x96.2 == 4))) && x110))) n 0 x31 x23 x31 x23)
theorem c_law05_TablePlays {n : Nat} {a0 : (List Int)} {a1 : (List law05_Act)} {a2 : Int} {r : Bool} {K : World → Prop} [Stable K] {v0 : Value} (f0 : Fz K v0 (LI .u32) a0) {v1 : Value} {ws1 : List Value} (f1 : Fzc K v1 L_law05_Act ws1 a1) (h : law05_TablePlays n a0 a1 a2 = some r) : FnW Try.prog 7 [v0, v1, .int .u32 a2] K (.bool r) := by
  unfold law05_TablePlays at h
  refine fn_of Try.func7 (by kernel_rfl) rfl Try.ntmps7 rfl (fun cx hbs hpre hro => ?_)
  haveI := knf_pre hbs hpre
  refine WP_seq ?_
  refine WP_region ?_
  refine WL_v rfl (VS_assign rfl) ?_
  refine WL_nil ?_
  refine WQ_then ?_
  refine WP_seq ?_
  refine WP_seq ?_
  obtain ⟨x21, hx21, h⟩ := bd_e h
  refine WP_region ?_
  refine WL_v rfl (VS_move rfl) ?_
  refine WL_v rfl (VS_call (c_law05_Great (K := K) (f1.mono ent) hx21) rfl kn) ?_
  refine WL_v rfl (VS_move rfl) ?_
  refine WL_g (Gd_b rfl rfl) rfl (fun hb => VS_move rfl) ?_
  refine WL_g (Gd_b rfl rfl) rfl (fun hb => VS_lenF f0 (gev rfl hb)) ?_
  refine WL_g (Gd_b rfl rfl) rfl (fun hb => VS_gtr (gev rfl hb) rfl) ?_
  refine WL_v rfl (VS_or rfl rfl) ?_
  refine WL_nil ?_
  refine WQ_then ?_
  refine WP_if rfl (fun hc => ?_) (fun hc => ?_)
  ·
    replace h := cn_t hc h
    refine WP_seq ?_
    obtain ⟨x22, hx22, h⟩ := bd_e h
    refine WP_region ?_
    refine WL_v rfl (VS_call (c_law05_wakes hx22) rfl (fun _ _ _ => trivial)) ?_
    refine WL_v rfl (VS_assign rfl) ?_
    refine WL_nil ?_
    refine WQ_then ?_
    refine WP_ret ?_
    refine WQ_then_ret ?_
    replace h := Option.some.inj h
    subst h
    exact WQ_ret () rfl (.tmp rfl .nil) trivial rfl (ks := []) rfl (by decide)
  ·
    replace h := cn_f hc h
    refine WP_skip ?_
    refine WQ_then ?_
    refine WP_seq ?_
    obtain ⟨x23, hx23, h⟩ := bd_e h
    obtain ⟨x30, hx30, h⟩ := bd_e h
    obtain ⟨x31, hx31, h⟩ := lt_e h
    refine WP_region ?_
    refine WL_v rfl (VS_move rfl) ?_
    refine WL_x rfl (RX_callB (c_table_Aged (K := K) (f0.mono ent) hx23) rfl) (fun ⟨w24, bs25, J26⟩ hp27 => ?_)
    obtain ⟨c29, rfl, f28⟩ := hp27
    replace f28 : L_table_Table.rep (fun w => K w ∧ Hs [.ext bs25 J26] w) c29 x23 := f28
    refine WL_v rfl (VS_move rfl) ?_
    refine WL_v rfl (VS_call (c_ref03_Aged (K := K) (f0.mono ent) hx30) rfl kn) ?_
    obtain ⟨c32, hc32, f33⟩ : ∃ cc, ((L_ref03_Book.enc x30) ++ (flat (fun _ => zc_ref05_Region) 32)) = cc ∧ (L_ref05_Table).rep (Hs []) cc x31 := ⟨_, rfl, by rw [hx31]; exact ⟨_, _, rfl, (FlatL.iff.2 rfl), ⟨_, rfl, fun _ _ => zr_ref05_Region⟩⟩⟩
    refine WL_v rfl (VS_build (cs := c32) rfl (by rw [← hc32]; kernel_rfl)) ?_
    refine WL_x rfl (RX_alloc (hz := (⟨by kernel_rfl⟩ : TZero Try.prog 77 zc_table_Table))) (fun b7 _ => ?_)
    refine WL_x rfl (RX_alloc (hz := (⟨by kernel_rfl⟩ : TZero Try.prog 105 zc_ref05_Table))) (fun b8 _ => ?_)
    obtain ⟨c34, hc34, f35⟩ : ∃ cc, splice zc_table_Table 0 c29 = cc ∧ (L_table_Table).rep (fun w => K w ∧ Hs [.ext bs25 J26] w) cc x23 := ⟨_, rfl, (Pth.id (L := L_table_Table)).set (Lay.mono _ ent (show (L_table_Table).rep (Hs []) zc_table_Table Z_table_Table from zr_table_Table)) (Lay.mono _ ent f28)⟩
    refine WL_x0 (RX_stN c29 (Pth.id (L := L_table_Table)) (v := x23) (r := (show (L_table_Table).rep (Hs []) zc_table_Table Z_table_Table from zr_table_Table)) (rv := ((Lay.mono _ ent f28) : (L_table_Table).rep (fun w => K w ∧ Hs [.ext bs25 J26] w) c29 x23)) rfl rfl rfl rfl hc34) (fun _ _ => ?_)
    obtain ⟨c36, hc36, f37⟩ : ∃ cc, splice zc_ref05_Table 0 c32 = cc ∧ (L_ref05_Table).rep (Hs []) cc x31 := ⟨_, rfl, (Pth.id (L := L_ref05_Table)).set (Lay.mono _ ent (show (L_ref05_Table).rep (Hs []) zc_ref05_Table Z_ref05_Table from zr_ref05_Table)) (Lay.mono _ ent f33)⟩
    refine WL_x0 (RX_stN c32 (Pth.id (L := L_ref05_Table)) (v := x31) (r := (show (L_ref05_Table).rep (Hs []) zc_ref05_Table Z_ref05_Table from zr_ref05_Table)) (rv := ((Lay.mono _ ent f33) : (L_ref05_Table).rep (Hs []) c32 x31)) rfl rfl rfl rfl hc36) (fun _ _ => ?_)
    refine WL_nil ?_
    refine WQ_then ?_
    refine WP_cuts (α := Nat × Nat × (List Value) × (List Value)) [1, 2, 7, 8] (.cons rfl (.cons rfl (.cons rfl (.cons rfl (.nil))))) (fun (b9, b10, c38, c40) => [(9, Ptr b9 0), (10, Ptr b10 0)]) (fun (b9, b10, c38, c40) => [.cells b10 105 c40, .cells b9 77 c38, .cells b8 105 c36, .cells b7 77 c34, .ext bs25 J26]) (fun (b9, b10, c38, c40) => (L_table_Table).rep (fun w => K w ∧ Hs [.ext bs25 J26] w) c38 x23 ∧ (L_ref05_Table).rep (Hs []) c40 x31) ?_ ?_
    ·
      refine WP_draw mixed (.stg [] [(0, [7]), (1, [8])] (.alt 2 [] (.stg [(0, [7]), (1, [8])] [] (.alt 3 [] (.stg [(0, [7]), (1, [8])] [] (.alt 4 [9, 28] (.stg [(1, [8])] [] (.alt 5 [10, 29] (.fin [] []) .no)) .no)) .no)) (.alt 3 [] (.stg [(0, [7]), (1, [8])] [] (.alt 2 [] (.stg [(0, [7]), (1, [8])] [] (.alt 4 [9, 28] (.stg [(1, [8])] [] (.alt 5 [10, 29] (.fin [] []) .no)) .no)) .no)) .no))) (by kernel_rfl) ?_
      refine Stg_stg ?_ ?_
      · exact ReOk_nil
      refine NewOk_cons rfl rfl (VG_v rfl (VS_loadall rfl (Lay.len _ f35))) ?_
      refine NewOk_cons rfl rfl (VG_v rfl (VS_loadall rfl (Lay.len _ f37))) ?_
      refine NewOk_nil ?_
      refine Stg_some rfl rfl (RG_x rfl (RX_alloc (hz := (⟨by kernel_rfl⟩ : TZero Try.prog 77 zc_table_Table)))) (fun b9 _ => ?_) ?_
      ·
        refine Stg_stg ?_ ?_
        ·
          refine ReOk_cons rfl rfl (VG_v rfl (VS_val (VS_loadall rfl (Lay.len _ f35)) rfl)) ?_
          refine ReOk_cons rfl rfl (VG_v rfl (VS_val (VS_loadall rfl (Lay.len _ f37)) rfl)) ?_
          exact ReOk_nil
        refine NewOk_nil ?_
        refine Stg_some rfl rfl (RG_x rfl (RX_alloc (hz := (⟨by kernel_rfl⟩ : TZero Try.prog 105 zc_ref05_Table)))) (fun b10 _ => ?_) Stg_no
        refine Stg_stg ?_ ?_
        ·
          refine ReOk_cons rfl rfl (VG_v rfl (VS_val (VS_loadall rfl (Lay.len _ f35)) rfl)) ?_
          refine ReOk_cons rfl rfl (VG_v rfl (VS_val (VS_loadall rfl (Lay.len _ f37)) rfl)) ?_
          exact ReOk_nil
        refine NewOk_nil ?_
        obtain ⟨c38, hc38, f39⟩ : ∃ cc, splice zc_table_Table 0 c34 = cc ∧ (L_table_Table).rep (fun w => K w ∧ Hs [.ext bs25 J26] w) cc x23 := ⟨_, rfl, (Pth.id (L := L_table_Table)).set (Lay.mono _ ent (show (L_table_Table).rep (Hs []) zc_table_Table Z_table_Table from zr_table_Table)) (Lay.mono _ ent f35)⟩
        refine Stg_none rfl (RG_x rfl (RX_stN c34 (Pth.id (L := L_table_Table)) (v := x23) (r := (show (L_table_Table).rep (Hs []) zc_table_Table Z_table_Table from zr_table_Table)) (rv := ((Lay.mono _ ent f35) : (L_table_Table).rep (fun w => K w ∧ Hs [.ext bs25 J26] w) c34 x23)) rfl rfl rfl rfl hc38)) (fun _ _ => ?_) Stg_no
        refine Stg_stg ?_ ?_
        ·
          refine ReOk_cons rfl rfl (VG_v rfl (VS_val (VS_loadall rfl (Lay.len _ f37)) rfl)) ?_
          exact ReOk_nil
        refine NewOk_nil ?_
        obtain ⟨c40, hc40, f41⟩ : ∃ cc, splice zc_ref05_Table 0 c36 = cc ∧ (L_ref05_Table).rep (Hs []) cc x31 := ⟨_, rfl, (Pth.id (L := L_ref05_Table)).set (Lay.mono _ ent (show (L_ref05_Table).rep (Hs []) zc_ref05_Table Z_ref05_Table from zr_ref05_Table)) (Lay.mono _ ent f37)⟩
        refine Stg_none rfl (RG_x rfl (RX_stN c36 (Pth.id (L := L_ref05_Table)) (v := x31) (r := (show (L_ref05_Table).rep (Hs []) zc_ref05_Table Z_ref05_Table from zr_ref05_Table)) (rv := ((Lay.mono _ ent f37) : (L_ref05_Table).rep (Hs []) c36 x31)) rfl rfl rfl rfl hc40)) (fun _ _ => ?_) Stg_no
        refine Stg_fin ?_ ?_
        · exact ReOk_nil
        refine NewOk_nil ?_
        exact WQ_cuts (b9, b10, c38, c40) ⟨f39, f41⟩ (Sub_cons rfl (Sub_cons rfl (Sub_nil))) (.cons rfl (.cons rfl (.cons rfl (.cons rfl (.nil))))) (ks := [0, 1, 2, 3, 4]) rfl (by decide)
      refine Stg_some rfl rfl (RG_x rfl (RX_alloc (hz := (⟨by kernel_rfl⟩ : TZero Try.prog 105 zc_ref05_Table)))) (fun b10 _ => ?_) ?_
      ·
        refine Stg_stg ?_ ?_
        ·
          refine ReOk_cons rfl rfl (VG_v rfl (VS_val (VS_loadall rfl (Lay.len _ f35)) rfl)) ?_
          refine ReOk_cons rfl rfl (VG_v rfl (VS_val (VS_loadall rfl (Lay.len _ f37)) rfl)) ?_
          exact ReOk_nil
        refine NewOk_nil ?_
        refine Stg_some rfl rfl (RG_x rfl (RX_alloc (hz := (⟨by kernel_rfl⟩ : TZero Try.prog 77 zc_table_Table)))) (fun b9 _ => ?_) Stg_no
        refine Stg_stg ?_ ?_
        ·
          refine ReOk_cons rfl rfl (VG_v rfl (VS_val (VS_loadall rfl (Lay.len _ f35)) rfl)) ?_
          refine ReOk_cons rfl rfl (VG_v rfl (VS_val (VS_loadall rfl (Lay.len _ f37)) rfl)) ?_
          exact ReOk_nil
        refine NewOk_nil ?_
        obtain ⟨c38, hc38, f39⟩ : ∃ cc, splice zc_table_Table 0 c34 = cc ∧ (L_table_Table).rep (fun w => K w ∧ Hs [.ext bs25 J26] w) cc x23 := ⟨_, rfl, (Pth.id (L := L_table_Table)).set (Lay.mono _ ent (show (L_table_Table).rep (Hs []) zc_table_Table Z_table_Table from zr_table_Table)) (Lay.mono _ ent f35)⟩
        refine Stg_none rfl (RG_x rfl (RX_stN c34 (Pth.id (L := L_table_Table)) (v := x23) (r := (show (L_table_Table).rep (Hs []) zc_table_Table Z_table_Table from zr_table_Table)) (rv := ((Lay.mono _ ent f35) : (L_table_Table).rep (fun w => K w ∧ Hs [.ext bs25 J26] w) c34 x23)) rfl rfl rfl rfl hc38)) (fun _ _ => ?_) Stg_no
        refine Stg_stg ?_ ?_
        ·
          refine ReOk_cons rfl rfl (VG_v rfl (VS_val (VS_loadall rfl (Lay.len _ f37)) rfl)) ?_
          exact ReOk_nil
        refine NewOk_nil ?_
        obtain ⟨c40, hc40, f41⟩ : ∃ cc, splice zc_ref05_Table 0 c36 = cc ∧ (L_ref05_Table).rep (Hs []) cc x31 := ⟨_, rfl, (Pth.id (L := L_ref05_Table)).set (Lay.mono _ ent (show (L_ref05_Table).rep (Hs []) zc_ref05_Table Z_ref05_Table from zr_ref05_Table)) (Lay.mono _ ent f37)⟩
        refine Stg_none rfl (RG_x rfl (RX_stN c36 (Pth.id (L := L_ref05_Table)) (v := x31) (r := (show (L_ref05_Table).rep (Hs []) zc_ref05_Table Z_ref05_Table from zr_ref05_Table)) (rv := ((Lay.mono _ ent f37) : (L_ref05_Table).rep (Hs []) c36 x31)) rfl rfl rfl rfl hc40)) (fun _ _ => ?_) Stg_no
        refine Stg_fin ?_ ?_
        · exact ReOk_nil
        refine NewOk_nil ?_
        exact WQ_cuts (b9, b10, c38, c40) ⟨f39, f41⟩ (Sub_cons rfl (Sub_cons rfl (Sub_nil))) (.cons rfl (.cons rfl (.cons rfl (.cons rfl (.nil))))) (ks := [1, 0, 2, 3, 4]) rfl (by decide)
      exact Stg_no
    ·
      rintro ⟨b9, b10, c38, c40⟩ ⟨f39, f41⟩
      refine WP_seq ?_
      refine WP_seq ?_
      refine WP_region ?_
      refine WL_v rfl (VS_assign rfl) ?_
      refine WL_nil ?_
      refine WQ_then ?_
      refine WP_block ?_
      obtain ⟨lb73, hlb73, h⟩ := lp5_i h
      refine WP_ext0 ?_
      refine WP_loops (α := Nat × Int × ref05_Table × table_Table × ref05_Table × table_Table × (List Value) × (List Value) × (List Value) × (List Value) × (List Nat) × (World → Prop)) [1, 2, 7, 8, 9, 10] (.cons rfl (.cons rfl (.cons rfl (.cons rfl (.cons rfl (.cons rfl (.nil))))))) (fun (m74, x60, x61, x64, x67, x70, c62, c65, c68, c71, bs58, J59) => [(11, .int .i64 x60)]) (fun (m74, x60, x61, x64, x67, x70, c62, c65, c68, c71, bs58, J59) => [.ext bs58 J59, .cells b10 105 c62, .cells b9 77 c65, .cells b8 105 c68, .cells b7 77 c71, .ext bs25 J26]) (fun (m74, x60, x61, x64, x67, x70, c62, c65, c68, c71, bs58, J59) => (L_ref05_Table).rep (fun w => K w ∧ Hs [.ext bs25 J26, .ext bs58 J59] w) c62 x61 ∧ (L_table_Table).rep (fun w => K w ∧ Hs [.ext bs25 J26, .ext bs58 J59] w) c65 x64 ∧ (L_ref05_Table).rep (fun w => K w ∧ Hs [.ext bs25 J26, .ext bs58 J59] w) c68 x67 ∧ (L_table_Table).rep (fun w => K w ∧ Hs [.ext bs25 J26, .ext bs58 J59] w) c71 x70 ∧ loop5 lb73 m74 x60 x61 x64 x67 x70 = some r) (fun (m74, x60, x61, x64, x67, x70, c62, c65, c68, c71, bs58, J59) => m74) (n, 0, x31, x23, x31, x23, c40, c38, c36, c34, [], (Hs [])) ⟨(Lay.mono _ ent f41), (Lay.mono _ ent f39), (Lay.mono _ ent f37), (Lay.mono _ ent f35), h⟩ (Sub_cons rfl (Sub_nil)) (ks := [0, 1, 2, 3, 4, 5]) rfl (by decide) ?_
      rintro ⟨m74, x60, x61, x64, x67, x70, c62, c65, c68, c71, bs58, J59⟩ ⟨f63, f66, f69, f72, h⟩
      replace h : loop5 lb73 m74 x60 x61 x64 x67 x70 = some r := h
      replace h := lp5_s hlb73 h
      obtain ⟨m74, rfl, h⟩ := h
      refine WP_seq ?_
      refine WP_seq ?_
      refine WP_region ?_
      refine WL_v rfl (VS_move rfl) ?_
      refine WL_v rfl (VS_move rfl) ?_
      refine WL_v rfl (VS_lenN f1 rfl) ?_
      refine WL_v rfl (VS_lss rfl rfl) ?_
      refine WL_nil ?_
      refine WQ_then ?_
      refine WP_if rfl (fun hc => ?_) (fun hc => ?_)
      ·
        replace h := cn_t hc h
        refine WP_skip ?_
        refine WQ_then ?_
        refine WP_seq ?_
        refine WP_block ?_
        refine WP_seq ?_
        refine WP_region ?_
        refine WL_v rfl (VS_assign rfl) ?_
        refine WL_nil ?_
        refine WQ_then ?_
        refine WP_seq ?_
        obtain ⟨hg76, h⟩ := gu_e h
        obtain ⟨x79, hx79, h⟩ := bd_e h
        refine WP_draw mixed (.stg [] [(0, [7]), (1, [8]), (2, [1]), (3, [11]), (4, [39, 40]), (5, [41])] (.alt 6 [37, 38, 42] (.stg [] [(7, [43]), (8, [36]), (9, [36]), (10, [36])] (.alt 11 [7, 44] (.stg [(9, [36]), (10, [36])] [] (.alt 12 [8, 45] (.stg [(10, [36])] [] (.alt 13 [46] (.fin [] []) .no)) .no)) .no)) .no)) (by kernel_rfl) ?_
        refine Stg_stg ?_ ?_
        · exact ReOk_nil
        refine NewOk_cons rfl rfl (VG_v rfl (VS_loadall rfl (Lay.len _ f72))) ?_
        refine NewOk_cons rfl rfl (VG_v rfl (VS_loadall rfl (Lay.len _ f69))) ?_
        refine NewOk_cons rfl rfl (VG_v rfl (VS_move rfl)) ?_
        refine NewOk_cons rfl rfl (VG_v rfl (VS_move rfl)) ?_
        refine NewOk_cons rfl rfl (VG_v rfl (VS_ixN (m := (Int.toNat x60)) f1 rfl rfl rfl (inb_e hg76).1 (inb_e hg76).2)) ?_
        obtain ⟨c77, hc77, f78⟩ := rep_ex ((Pth.idx (L := L_law05_Act) (m := (a1.length)) (k := 15) ((Int.toNat x60)) (inb_e hg76).2 rfl).get f1.rep)
        refine NewOk_cons rfl rfl (VG_v rfl (VS_ldnN (M := L_law05_Act) f1 (Pth.idx (L := L_law05_Act) (m := (a1.length)) (k := 15) ((Int.toNat x60)) (inb_e hg76).2 rfl) rfl rfl (by decide) hc77)) ?_
        refine NewOk_nil ?_
        refine Stg_some rfl rfl (RG_x rfl (RX_callB (c_law05_Does (K := (fun w => K w ∧ Hs [.ext bs25 J26, .ext bs58 J59] w)) (Lay.mono _ ent f72) (Lay.mono _ ent f69) (Lay.mono _ ent f78) hx79) rfl)) (fun ⟨w80, bs81, J82⟩ hp83 => ?_) Stg_no
        obtain ⟨c85, c87, rfl, f84, f86⟩ := hp83
        replace f84 : (L_table_Table).rep (fun w => (fun w => K w ∧ Hs [.ext bs25 J26, .ext bs58 J59] w) w ∧ Hs [.ext bs81 J82] w) c85 x79.1 := f84
        replace f86 : (L_ref05_Table).rep (fun w => (fun w => K w ∧ Hs [.ext bs25 J26, .ext bs58 J59] w) w ∧ Hs [.ext bs81 J82] w) c87 x79.2.1 := f86
        refine Stg_stg ?_ ?_
        · exact ReOk_nil
        refine NewOk_cons rfl rfl (VG_v rfl (VS_move rfl)) ?_
        refine NewOk_cons rfl rfl (VG_v rfl (VS_extract rfl rfl)) ?_
        refine NewOk_cons rfl rfl (VG_v rfl (VS_extract rfl rfl)) ?_
        refine NewOk_cons rfl rfl (VG_v rfl (VS_extract rfl rfl)) ?_
        refine NewOk_nil ?_
        obtain ⟨c88, hc88, f89⟩ : ∃ cc, splice c71 0 c85 = cc ∧ (L_table_Table).rep (fun w => K w ∧ Hs [.ext bs25 J26, .ext bs58 J59, .ext bs81 J82] w) cc x79.1 := ⟨_, rfl, (Pth.id (L := L_table_Table)).set (Lay.mono _ ent f72) (Lay.mono _ ent f84)⟩
        refine Stg_none rfl (RG_x rfl (RX_stN c85 (Pth.id (L := L_table_Table)) (v := x79.1) (r := f72) (rv := ((Lay.mono _ ent f84) : (L_table_Table).rep (fun w => K w ∧ Hs [.ext bs25 J26, .ext bs58 J59, .ext bs81 J82] w) c85 x79.1)) rfl rfl rfl rfl hc88)) (fun _ _ => ?_) Stg_no
        refine Stg_stg ?_ ?_
        ·
          refine ReOk_cons rfl rfl (VG_v rfl (VS_val (VS_extract rfl rfl) rfl)) ?_
          refine ReOk_cons rfl rfl (VG_v rfl (VS_val (VS_extract rfl rfl) rfl)) ?_
          exact ReOk_nil
        refine NewOk_nil ?_
        obtain ⟨c90, hc90, f91⟩ : ∃ cc, splice c68 0 c87 = cc ∧ (L_ref05_Table).rep (fun w => K w ∧ Hs [.ext bs25 J26, .ext bs58 J59, .ext bs81 J82] w) cc x79.2.1 := ⟨_, rfl, (Pth.id (L := L_ref05_Table)).set (Lay.mono _ ent f69) (Lay.mono _ ent f86)⟩
        refine Stg_none rfl (RG_x rfl (RX_stN c87 (Pth.id (L := L_ref05_Table)) (v := x79.2.1) (r := f69) (rv := ((Lay.mono _ ent f86) : (L_ref05_Table).rep (fun w => K w ∧ Hs [.ext bs25 J26, .ext bs58 J59, .ext bs81 J82] w) c87 x79.2.1)) rfl rfl rfl rfl hc90)) (fun _ _ => ?_) Stg_no
        refine Stg_stg ?_ ?_
        ·
          refine ReOk_cons rfl rfl (VG_v rfl (VS_val (VS_extract rfl rfl) rfl)) ?_
          exact ReOk_nil
        refine NewOk_nil ?_
        refine Stg_some rfl rfl (RG_x rfl ((VS_assign rfl).rx)) (fun _ _ => ?_) Stg_no
        refine Stg_fin ?_ ?_
        · exact ReOk_nil
        refine NewOk_nil ?_
        refine WQ_then ?_
        refine WP_seq ?_
        refine WP_seq ?_
        refine WP_region ?_
        refine WL_v rfl (VS_move rfl) ?_
        refine WL_v rfl (VS_not rfl) ?_
        refine WL_nil ?_
        refine WQ_then ?_
        refine WP_if rfl (fun hc => ?_) (fun hc => ?_)
        ·
          replace h := cn_t hc h
          refine WP_seq ?_
          refine WP_region ?_
          refine WL_v rfl (VS_assign rfl) ?_
          refine WL_nil ?_
          refine WQ_then ?_
          refine WP_ret ?_
          refine WQ_then_ret ?_
          refine WQ_block_ret ?_
          refine WQ_then_ret ?_
          refine WQ_then_ret ?_
          refine WQ_block_ret ?_
          refine WQ_then_ret ?_
          replace h := Option.some.inj h
          subst h
          exact WQ_ret () rfl (.tmp rfl .nil) trivial rfl (ks := []) rfl (by decide)
        ·
          replace h := cn_f hc h
          refine WP_skip ?_
          refine WQ_then ?_
          refine WP_seq ?_
          refine WP_region ?_
          refine WL_v rfl (VS_move rfl) ?_
          refine WL_v rfl (VS_move rfl) ?_
          refine WL_v rfl (VS_lenN f1 rfl) ?_
          refine WL_v rfl (VS_quo rfl rfl (by decide) rfl) ?_
          refine WL_v rfl (VS_eql rfl rfl) ?_
          refine WL_nil ?_
          refine WQ_then ?_
          refine WP_if rfl (fun hc => ?_) (fun hc => ?_)
          ·
            replace h := cn_t hc h
            refine WP_seq ?_
            refine WP_region ?_
            refine WL_v rfl (VS_loadall rfl (Lay.len _ f89)) ?_
            obtain ⟨c92, hc92, f93⟩ : ∃ cc, splice c65 0 c88 = cc ∧ (L_table_Table).rep (fun w => K w ∧ Hs [.ext bs25 J26, .ext bs58 J59, .ext bs81 J82] w) cc x79.1 := ⟨_, rfl, (Pth.id (L := L_table_Table)).set (Lay.mono _ ent f66) (Lay.mono _ ent f89)⟩
            refine WL_x0 (RX_stN c88 (Pth.id (L := L_table_Table)) (v := x79.1) (r := f66) (rv := ((Lay.mono _ ent f89) : (L_table_Table).rep (fun w => K w ∧ Hs [.ext bs25 J26, .ext bs58 J59, .ext bs81 J82] w) c88 x79.1)) rfl rfl rfl rfl hc92) (fun _ _ => ?_)
            refine WL_nil ?_
            refine WQ_then ?_
            refine WP_region ?_
            refine WL_v rfl (VS_loadall rfl (Lay.len _ f91)) ?_
            obtain ⟨c94, hc94, f95⟩ : ∃ cc, splice c62 0 c90 = cc ∧ (L_ref05_Table).rep (fun w => K w ∧ Hs [.ext bs25 J26, .ext bs58 J59, .ext bs81 J82] w) cc x79.2.1 := ⟨_, rfl, (Pth.id (L := L_ref05_Table)).set (Lay.mono _ ent f63) (Lay.mono _ ent f91)⟩
            refine WL_x0 (RX_stN c90 (Pth.id (L := L_ref05_Table)) (v := x79.2.1) (r := f63) (rv := ((Lay.mono _ ent f91) : (L_ref05_Table).rep (fun w => K w ∧ Hs [.ext bs25 J26, .ext bs58 J59, .ext bs81 J82] w) c90 x79.2.1)) rfl rfl rfl rfl hc94) (fun _ _ => ?_)
            refine WL_nil ?_
            refine WQ_block ?_
            refine WQ_then ?_
            refine WP_region ?_
            refine WL_v rfl (VS_move rfl) ?_
            refine WL_v rfl (VS_add rfl rfl rfl) ?_
            refine WL_v rfl (VS_assign rfl) ?_
            refine WL_nil ?_
            refine WQ_bundle (R := [.ext bs81 J82, .ext bs58 J59]) (H' := [.cells b10 105 c94, .cells b9 77 c92, .cells b8 105 c90, .cells b7 77 c88, .ext bs25 J26]) (ks := [0, 1, 2, 3, 4, 5, 6]) rfl (by decide) ?_
            exact WQ_loops (m74, wr .i64 (x60 + 1), x79.2.1, x79.1, x79.2.1, x79.1, c94, c92, c90, c88, (blks [.ext bs81 J82, .ext bs58 J59]), (Hs [.ext bs81 J82, .ext bs58 J59])) (Nat.lt_succ_self _) ⟨(Lay.mono _ ent f95), (Lay.mono _ ent f93), (Lay.mono _ ent f91), (Lay.mono _ ent f89), h⟩ (Sub_cons rfl (Sub_nil)) (.cons rfl (.cons rfl (.cons rfl (.cons rfl (.cons rfl (.cons rfl (.nil))))))) (ks := [0, 1, 2, 3, 4, 5]) rfl (by decide)
          ·
            replace h := cn_f hc h
            refine WP_skip ?_
            refine WQ_block ?_
            refine WQ_then ?_
            refine WP_region ?_
            refine WL_v rfl (VS_move rfl) ?_
            refine WL_v rfl (VS_add rfl rfl rfl) ?_
            refine WL_v rfl (VS_assign rfl) ?_
            refine WL_nil ?_
            refine WQ_bundle (R := [.ext bs81 J82, .ext bs58 J59]) (H' := [.cells b10 105 c62, .cells b9 77 c65, .cells b8 105 c90, .cells b7 77 c88, .ext bs25 J26]) (ks := [0, 1, 2, 3, 4, 5, 6]) rfl (by decide) ?_
            exact WQ_loops (m74, wr .i64 (x60 + 1), x61, x64, x79.2.1, x79.1, c62, c65, c90, c88, (blks [.ext bs81 J82, .ext bs58 J59]), (Hs [.ext bs81 J82, .ext bs58 J59])) (Nat.lt_succ_self _) ⟨(Lay.mono _ ent f63), (Lay.mono _ ent f66), (Lay.mono _ ent f91), (Lay.mono _ ent f89), h⟩ (Sub_cons rfl (Sub_nil)) (.cons rfl (.cons rfl (.cons rfl (.cons rfl (.cons rfl (.cons rfl (.nil))))))) (ks := [0, 1, 2, 3, 4, 5]) rfl (by decide)
      ·
        replace h := cn_f hc h
        refine WP_exit ?_
        refine WQ_then_exit ?_
        refine WQ_then_exit ?_
        refine WQ_block_exit ?_
        refine WQ_then ?_
        refine WP_seq ?_
        obtain ⟨x96, hx96, h⟩ := bd_e h
        refine WP_region ?_
        refine WL_v rfl (VS_loadall rfl (Lay.len _ f72)) ?_
        refine WL_v rfl (VS_move rfl) ?_
        refine WL_x rfl (RX_callB (c_table_Table_Get (K := (fun w => K w ∧ Hs [.ext bs25 J26, .ext bs58 J59] w)) (Lay.mono _ ent f72) hx96) rfl) (fun ⟨w97, bs98, J99⟩ hp100 => ?_)
        obtain ⟨c102, rfl, f101⟩ := hp100
        replace f101 : (L_table_Region).rep (fun w => (fun w => K w ∧ Hs [.ext bs25 J26, .ext bs58 J59] w) w ∧ Hs [.ext bs98 J99] w) c102 x96.1 := f101
        refine WL_v rfl (VS_move rfl) ?_
        refine WL_v rfl (VS_extract rfl rfl) ?_
        refine WL_v rfl (VS_extract rfl rfl) ?_
        refine WL_x rfl (RX_alloc (hz := (⟨by kernel_rfl⟩ : TZero Try.prog 74 zc_table_Region))) (fun b13 _ => ?_)
        obtain ⟨c103, hc103, f104⟩ : ∃ cc, splice zc_table_Region 0 c102 = cc ∧ (L_table_Region).rep (fun w => K w ∧ Hs [.ext bs25 J26, .ext bs58 J59, .ext bs98 J99] w) cc x96.1 := ⟨_, rfl, (Pth.id (L := L_table_Region)).set (Lay.mono _ ent (show (L_table_Region).rep (Hs []) zc_table_Region Z_table_Region from zr_table_Region)) (Lay.mono _ ent f101)⟩
        refine WL_x0 (RX_stN c102 (Pth.id (L := L_table_Region)) (v := x96.1) (r := (show (L_table_Region).rep (Hs []) zc_table_Region Z_table_Region from zr_table_Region)) (rv := ((Lay.mono _ ent f101) : (L_table_Region).rep (fun w => K w ∧ Hs [.ext bs25 J26, .ext bs58 J59, .ext bs98 J99] w) c102 x96.1)) rfl rfl rfl rfl hc103) (fun _ _ => ?_)
        refine WL_v rfl (VS_assign rfl) ?_
        refine WL_nil ?_
        refine WQ_then ?_
        refine WP_seq ?_
        obtain ⟨x105, hx105, h⟩ := bd_e h
        obtain ⟨x106, hx106, _, h⟩ := cl_e h
        obtain ⟨x107, hx107, _, h⟩ := cl_e h
        obtain ⟨x108, hx108, _, h⟩ := cl_e h
        obtain ⟨x109, hx109, _, h⟩ := cl_e h
        obtain ⟨x110, hx110, _, h⟩ := cl_e h
        refine WP_draw mixed (.stg [] [(0, [7]), (1, [8]), (2, [62, 63]), (3, [64]), (4, [9, 65]), (5, [10, 65]), (6, [65, 66, 67]), (7, [65, 68]), (8, [69]), (9, [7, 70]), (10, [70, 71]), (11, [70, 72]), (12, [2, 70]), (13, [70, 73, 74]), (14, [8, 70]), (15, [2, 70]), (16, [70, 77]), (17, [70, 76, 78]), (18, [70, 75, 79]), (19, [70, 80]), (20, [81]), (21, [14, 82]), (22, [82, 83]), (23, [8, 82]), (24, [2, 82]), (25, [82, 86]), (26, [82, 85, 87]), (27, [82, 84, 88]), (28, [82, 89]), (29, [90]), (30, [14, 91]), (31, [91, 92]), (32, [91, 93]), (33, [14, 94]), (34, [94, 95]), (35, [91, 94, 96]), (36, [91, 97]), (37, [98]), (38, [99]), (39, [99, 100])] (.alt 40 [101] (.fin [] []) .no)) (by kernel_rfl) ?_
        refine Stg_stg ?_ ?_
        · exact ReOk_nil
        refine NewOk_cons rfl rfl (VG_v rfl (VS_loadall rfl (Lay.len _ f72))) ?_
        refine NewOk_cons rfl rfl (VG_v rfl (VS_loadall rfl (Lay.len _ f69))) ?_
        refine NewOk_cons rfl rfl (VG_v rfl (VS_call (c_law05_Same (K := (fun w => K w ∧ Hs [.ext bs25 J26, .ext bs58 J59] w)) (Lay.mono _ ent f72) (Lay.mono _ ent f69) hx105) rfl kn)) ?_
        refine NewOk_cons rfl rfl (VG_v rfl (VS_move rfl)) ?_
        refine NewOk_cons rfl rfl (VG_g (Gd_b rfl rfl) (fun hb => VS_loadall rfl (Lay.len _ f66))) ?_
        refine NewOk_cons rfl rfl (VG_g (Gd_b rfl rfl) (fun hb => VS_loadall rfl (Lay.len _ f63))) ?_
        refine NewOk_cons rfl rfl (VG_g (Gd_b rfl rfl) (fun hb => VS_call (c_law05_Same (K := (fun w => K w ∧ Hs [.ext bs25 J26, .ext bs58 J59] w)) (Lay.mono _ ent f66) (Lay.mono _ ent f63) (hx106 hb)) (evs_cons (gev rfl hb) (evs_cons (gev rfl hb) rfl)) kn)) ?_
        refine NewOk_cons rfl rfl (VG_v rfl (VS_and rfl rfl)) ?_
        refine NewOk_cons rfl rfl (VG_v rfl (VS_move rfl)) ?_
        refine NewOk_cons rfl rfl (VG_g (Gd_b rfl rfl) (fun hb => VS_field0 rfl)) ?_
        refine NewOk_cons rfl rfl (VG_g (Gd_b rfl rfl) (fun hb => VS_field0 (gev rfl hb))) ?_
        refine NewOk_cons rfl rfl (VG_g (Gd_b rfl rfl) (fun hb => VS_loadpart (gev rfl hb) (FlatL.iff.1 ((P_table_Table_book.c0 P_table_book_Book).get f72)) (enc_len _ _))) ?_
        refine NewOk_cons rfl rfl (VG_g (Gd_b rfl rfl) (fun hb => VS_move rfl)) ?_
        refine NewOk_cons rfl rfl (VG_g (Gd_b rfl rfl) (fun hb => VS_call (c_handle_Book_Good (hx107 hb)) (evs_cons (gev rfl hb) (evs_cons (gev rfl hb) rfl)) (fun _ _ _ => trivial))) ?_
        refine NewOk_cons rfl rfl (VG_g (Gd_b rfl rfl) (fun hb => VS_loadall rfl (Lay.len _ f69))) ?_
        refine NewOk_cons rfl rfl (VG_g (Gd_b rfl rfl) (fun hb => VS_move rfl)) ?_
        refine NewOk_cons rfl rfl (VG_g (Gd_b rfl rfl) (fun hb => VS_conv (gev rfl hb) rfl)) ?_
        refine NewOk_cons rfl rfl (VG_g (Gd_b rfl rfl) (fun hb => VS_call (c_ref05_Table_Good (K := (fun w => K w ∧ Hs [.ext bs25 J26, .ext bs58 J59] w)) (Lay.mono _ ent f69) (hx108 hb)) (evs_cons (gev rfl hb) (evs_cons (gev rfl hb) rfl)) kn)) ?_
        refine NewOk_cons rfl rfl (VG_g (Gd_b rfl rfl) (fun hb => VS_eqlb (gev rfl hb) (gev rfl hb))) ?_
        refine NewOk_cons rfl rfl (VG_v rfl (VS_and rfl rfl)) ?_
        refine NewOk_cons rfl rfl (VG_v rfl (VS_move rfl)) ?_
        refine NewOk_cons rfl rfl (VG_g (Gd_b rfl rfl) (fun hb => VS_move rfl)) ?_
        refine NewOk_cons rfl rfl (VG_g (Gd_b rfl rfl) (fun hb => VS_eql (gev rfl hb) rfl)) ?_
        refine NewOk_cons rfl rfl (VG_g (Gd_b rfl rfl) (fun hb => VS_loadall rfl (Lay.len _ f69))) ?_
        refine NewOk_cons rfl rfl (VG_g (Gd_b rfl rfl) (fun hb => VS_move rfl)) ?_
        refine NewOk_cons rfl rfl (VG_g (Gd_b rfl rfl) (fun hb => VS_conv (gev rfl hb) rfl)) ?_
        refine NewOk_cons rfl rfl (VG_g (Gd_b rfl rfl) (fun hb => VS_call (c_ref05_Table_Good (K := (fun w => K w ∧ Hs [.ext bs25 J26, .ext bs58 J59] w)) (Lay.mono _ ent f69) (hx109 hb)) (evs_cons (gev rfl hb) (evs_cons (gev rfl hb) rfl)) kn)) ?_
        refine NewOk_cons rfl rfl (VG_g (Gd_b rfl rfl) (fun hb => VS_eqlb (gev rfl hb) (gev rfl hb))) ?_
        refine NewOk_cons rfl rfl (VG_v rfl (VS_and rfl rfl)) ?_
        refine NewOk_cons rfl rfl (VG_v rfl (VS_move rfl)) ?_
        refine NewOk_cons rfl rfl (VG_g (Gd_b rfl rfl) (fun hb => VS_move rfl)) ?_
        refine NewOk_cons rfl rfl (VG_g (Gd_b rfl rfl) (fun hb => VS_eql (gev rfl hb) rfl)) ?_
        refine NewOk_cons rfl rfl (VG_g (Gd_b rfl rfl) (fun hb => VS_move (gev rfl hb))) ?_
        refine NewOk_cons rfl rfl (VG_g (Gd_g rfl rfl) (fun hb => VS_move rfl)) ?_
        refine NewOk_cons rfl rfl (VG_g (Gd_g rfl rfl) (fun hb => VS_eql (gev rfl hb) rfl)) ?_
        refine NewOk_cons rfl rfl (VG_g (Gd_b rfl rfl) (fun hb => VS_or (gev rfl hb) (gev2 rfl hb))) ?_
        refine NewOk_cons rfl rfl (VG_v rfl (VS_and rfl rfl)) ?_
        refine NewOk_cons rfl rfl (VG_v rfl (VS_move rfl)) ?_
        refine NewOk_cons rfl rfl (VG_g (Gd_b rfl rfl) (fun hb => VS_call (c_law05_wakes (hx110 hb)) rfl (fun _ _ _ => trivial))) ?_
        refine NewOk_cons rfl rfl (VG_v rfl (VS_and rfl rfl)) ?_
        refine NewOk_nil ?_
        refine Stg_some rfl rfl (RG_x rfl ((VS_assign rfl).rx)) (fun _ _ => ?_) Stg_no
        refine Stg_fin ?_ ?_
        · exact ReOk_nil
        refine NewOk_nil ?_
        refine WQ_then ?_
        refine WP_ret ?_
        replace h := Option.some.inj h
        subst h
        exact WQ_ret () rfl (.tmp rfl .nil) trivial rfl (ks := []) rfl (by decide)
end Go.Proofs.Ytmdpbdhkmfjlhaa

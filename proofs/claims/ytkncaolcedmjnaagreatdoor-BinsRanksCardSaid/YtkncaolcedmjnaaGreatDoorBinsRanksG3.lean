/- What the functions that the law comes to compute, as plain functions with fuel, and that calls of them return it: part 3. -/
import Derived.Test.YtkncaolcedmjnaaGreatDoorTk15
import Derived.Test.YtkncaolcedmjnaaGreatDoorProg
import Derived.Test.YtkncaolcedmjnaaGreatDoorBinsRanksG2
open Go Go.RowKit TK
open Go.Proofs
set_option maxRecDepth 100000
namespace TK
theorem bins_Of_ok {w0 : World} {M : MSet} (hM : ∀ k, M k → k < w0.heap.size) (k : Nat) (p24 : Ensemble) {A25 : Option Addr} {c26 : Nat} (hs27 : p24.features.length ≤ c26 ∧ Sl RStr M w0 A25 p24.features) {A28 : Option Addr} {c29 : Nat} (hs30 : p24.base.length ≤ c29 ∧ Sl (RI .i64) M w0 A28 p24.base) {A31 : Option Addr} {c32 : Nat} (hs33 : p24.trees.length ≤ c32 ∧ Sl RTree M w0 A31 p24.trees) (r1 : Bins) (r2 : Int) (h : bins_Of k p24 = some (r1, r2)) :
    Calls Tryz.prog 131 #[.agg #[.string p24.name, .slice A25 p24.features.length c26, .int .i64 p24.outputs, .slice A28 p24.base.length c29, .slice A31 p24.trees.length c32]] w0 (Gives w0 fun v w' => ∃ (A0_0 : Option Addr), ∃ (c0_0 : Nat), ∃ (A0_1 : Option Addr), ∃ (c0_1 : Nat), v = .tuple #[.agg #[.slice A0_0 r1.cuts.length c0_0, .slice A0_1 r1.cats.length c0_1], .int .i64 r2] ∧ (r1.cuts.length ≤ c0_0 ∧ Sl (RSl RF) M w' A0_0 r1.cuts) ∧ (r1.cats.length ≤ c0_1 ∧ Sl (RSl (RI .i64)) M w' A0_1 r1.cats)) := by
  have hS := Sta.init hM
  have hS := hS.arg hs27
  have hS := hS.arg hs30
  have hS := hS.arg hs33
  unfold bins_Of at h
  refine calls_enter (n := 0) Tryz.func131 rfl [(0, .agg #[.string p24.name, .slice A25 p24.features.length c26, .int .i64 p24.outputs, .slice A28 p24.base.length c29, .slice A31 p24.trees.length c32])] rfl rfl ⟨rfl, trivial⟩ ?_
  refine WC.seq ?_
  refine WC.reg ?_
  refine WL.box [.string p24.name, .slice A25 p24.features.length c26, .int .i64 p24.outputs, .slice A28 p24.base.length c29, .slice A31 p24.trees.length c32] rfl rfl hS rfl ?_
  intro b12038 w hS
  refine WL.alloc _ z70 rfl hS rfl ?_
  intro b12039 w hS
  refine WL.val (R_assign rfl) rfl rfl ?_
  refine WL.nil ?_
  refine WQ.thenC ?_
  refine WC.seq ?_
  refine WC.seq ?_
  refine WC.reg ?_
  refine WL.val (R_loadA g26 rfl rfl (hS.cells 1 (o := 0) (m := 5) rfl rfl)) rfl rfl ?_
  obtain ⟨r12040, hr12041, h⟩ := bindS h
  refine WL.call e26 rfl rfl hS (rules_Valid_ok (hS).mx_lt k p24 (hS.sl 2 rfl) (hS.sl 1 rfl) (hS.sl 0 rfl) _ hr12041) rfl ?_
  intro v w hB hS hP
  obtain ⟨rfl⟩ := hP
  refine WL.val (R_not rfl) rfl rfl ?_
  refine WL.nil ?_
  refine WQ.thenC ?_
  refine WC.cond rfl (fun hb12042 => ?_) (fun hb12042 => ?_)
  · have h := ifT hb12042 h
    refine WC.seq ?_
    refine WC.reg ?_
    refine WL.val (R_build (cells := #[.slice none 0 0, .slice none 0 0]) rfl (by kernel_rfl)) rfl rfl ?_
    refine WL.storeB 0 [.slice none 0 0, .slice none 0 0] g70 hS rfl rfl rfl rfl rfl rfl rfl [.slice none 0 0, .slice none 0 0] rfl ?_
    intro w hS
    refine WL.val (R_assign rfl) rfl rfl ?_
    refine WL.nil ?_
    refine WQ.thenC ?_
    refine WC.ret ?_
    refine WQ.thenR ?_
    have hS0 := hS
    have h := Option.some.inj h
    obtain ⟨rfl, rfl⟩ := Prod.mk.inj h
    exact ret_2 rfl (resV_B 0 hS0 rfl rfl g70 rfl) rfl ⟨_, rfl, hS.bel, ⟨none, 0, none, 0, rfl, slnil, slnil⟩⟩
  · have h := ifF hb12042 h
    refine WC.skip ?_
    refine WQ.thenC ?_
    refine WC.seq ?_
    refine WC.reg ?_
    refine WL.alloc _ z70 rfl hS rfl ?_
    intro b12043 w hS
    refine WL.nil ?_
    refine WQ.thenC ?_
    obtain ⟨o12229, h12230, h12231⟩ := bindS h
    refine WC.seqM (fun env w => ∃ (y12224 : List (List Nat)), ∃ (y12228 : List (List Int)), ∃ (A12221 : Option Addr), ∃ (n12222 : Nat), ∃ (c12223 : Nat), ∃ (A12225 : Option Addr), ∃ (n12226 : Nat), ∃ (c12227 : Nat), (y12224, y12228) = o12229 ∧ env = [(2, .pointer (some ⟨b12039, 0, none⟩)), (4, .pointer (some ⟨b12043, 0, none⟩))] ∧ Sta w0 M [Blk b12039 [.slice none 0 0, .slice none 0 0] 70, Blk b12043 [.slice A12221 n12222 c12223, .slice A12225 n12226 c12227] 70, Row (RSl RF) 65 (.slice A12221 n12222 c12223) y12224, Row (RSl (RI .i64)) 55 (.slice A12225 n12226 c12227) y12228] [] w) ?_ ?_
    · have h := h12230
      refine WC.seq ?_
      refine WC.reg ?_
      refine WL.val (R_fieldB o26_1 rfl) rfl rfl ?_
      refine WL.val (R_load1 g22 rfl (hS.cell 2 rfl rfl)) rfl rfl ?_
      refine WL.val (R_lenS u22 rfl) rfl rfl ?_
      refine WL.val (R_move rfl) rfl rfl ?_
      refine WL.nil ?_
      refine WQ.thenC ?_
      refine WC.block ?_
      have hS := hS.nilRow (RSl RF) 65
      have hS := hS.nilRow (RSl (RI .i64)) 55
      have hS := hS.pick [4, 3, 2, 1, 0] [2, 1, 0] rfl
      refine WC.loopJ (fun m env w => ∃ (y12319 : List (List Nat)), ∃ (y12323 : List (List Int)), ∃ (y12324 : Int), ∃ (A12316 : Option Addr), ∃ (n12317 : Nat), ∃ (c12318 : Nat), ∃ (A12320 : Option Addr), ∃ (n12321 : Nat), ∃ (c12322 : Nat), env = [(1, .pointer (some ⟨b12038, 0, none⟩)), (2, .pointer (some ⟨b12039, 0, none⟩)), (4, .pointer (some ⟨b12043, 0, none⟩)), (12, .int .i64 (p24.features.length : Int)), (13, .int .i64 y12324)] ∧ Sta w0 M [Blk b12038 [.string p24.name, .slice A25 p24.features.length c26, .int .i64 p24.outputs, .slice A28 p24.base.length c29, .slice A31 p24.trees.length c32] 26, Blk b12039 [.slice none 0 0, .slice none 0 0] 70, Blk b12043 [.slice A12316 n12317 c12318, .slice A12320 n12321 c12322] 70, Row (RSl RF) 65 (.slice A12316 n12317 c12318) y12319, Row (RSl (RI .i64)) 55 (.slice A12320 n12321 c12322) y12323] [FSl RStr A25 c26 p24.features, FSl (RI .i64) A28 c29 p24.base, FSl RTree A31 c32 p24.trees] w ∧ bins_Of_l0 k p24 m y12319 y12323 y12324 = some o12229) k ⟨([] : List (List Nat)), ([] : List (List Int)), (0 : Int), none, 0, 0, none, 0, 0, rfl, hS, h⟩ ⟨rfl, rfl, rfl, rfl, rfl, trivial⟩ (fun env w hI => ?_) (fun m env w hI => ?_)
      · obtain ⟨y12319, y12323, y12324, A12316, n12317, c12318, A12320, n12321, c12322, rfl, hS, h⟩ := hI
        rw [bins_Of_l0] at h
        cases h
      · obtain ⟨y12319, y12323, y12324, A12316, n12317, c12318, A12320, n12321, c12322, rfl, hS, h⟩ := hI
        rw [bins_Of_l0] at h
        obtain rfl := Row.len (hS.res 3 rfl)
        obtain rfl := Row.len (hS.res 4 rfl)
        refine WC.seq ?_
        refine WC.reg ?_
        refine WL.val (R_cmp rfl rfl rfl) rfl rfl ?_
        refine WL.nil ?_
        refine WQ.thenC ?_
        refine WC.seq ?_
        refine WC.cond rfl (fun hb12409 => ?_) (fun hb12409 => ?_)
        · have h := ifT hb12409 h
          refine WC.skip ?_
          refine WQ.thenC ?_
          obtain ⟨o12454, h12455, h12456⟩ := bindS h
          refine WC.seqM (fun env w => ∃ (y12449 : List (List Nat)), ∃ (y12453 : List (List Int)), ∃ (A12446 : Option Addr), ∃ (n12447 : Nat), ∃ (c12448 : Nat), ∃ (A12450 : Option Addr), ∃ (n12451 : Nat), ∃ (c12452 : Nat), (y12449, y12453) = o12454 ∧ env = [(1, .pointer (some ⟨b12038, 0, none⟩)), (2, .pointer (some ⟨b12039, 0, none⟩)), (4, .pointer (some ⟨b12043, 0, none⟩)), (12, .int .i64 (p24.features.length : Int)), (13, .int .i64 y12324)] ∧ Sta w0 M [Blk b12038 [.string p24.name, .slice A25 p24.features.length c26, .int .i64 p24.outputs, .slice A28 p24.base.length c29, .slice A31 p24.trees.length c32] 26, Blk b12039 [.slice none 0 0, .slice none 0 0] 70, Blk b12043 [.slice A12446 n12447 c12448, .slice A12450 n12451 c12452] 70, Row (RSl RF) 65 (.slice A12446 n12447 c12448) y12449, Row (RSl (RI .i64)) 55 (.slice A12450 n12451 c12452) y12453] [FSl RStr A25 c26 p24.features, FSl (RI .i64) A28 c29 p24.base, FSl RTree A31 c32 p24.trees] w) ?_ ?_
          · have h := h12455
            refine WC.block ?_
            refine WC.seq ?_
            refine WC.reg ?_
            refine WL.val (R_move rfl) rfl rfl ?_
            refine WL.val (R_assign rfl) rfl rfl ?_
            refine WL.nil ?_
            refine WQ.thenC ?_
            obtain ⟨o12471, h12472, h12473⟩ := bindS h
            refine WC.seqM (fun env w => ∃ (y12470 : List (List Nat)), ∃ (A12467 : Option Addr), ∃ (n12468 : Nat), ∃ (c12469 : Nat), y12470 = o12471 ∧ env = [(1, .pointer (some ⟨b12038, 0, none⟩)), (2, .pointer (some ⟨b12039, 0, none⟩)), (4, .pointer (some ⟨b12043, 0, none⟩)), (5, .int .i64 y12324), (12, .int .i64 (p24.features.length : Int)), (13, .int .i64 y12324)] ∧ Sta w0 M [Blk b12038 [.string p24.name, .slice A25 p24.features.length c26, .int .i64 p24.outputs, .slice A28 p24.base.length c29, .slice A31 p24.trees.length c32] 26, Blk b12039 [.slice none 0 0, .slice none 0 0] 70, Blk b12043 [.slice A12467 n12468 c12469, .slice A12320 y12323.length c12322] 70, Row (RSl RF) 65 (.slice A12467 n12468 c12469) y12470, Row (RSl (RI .i64)) 55 (.slice A12320 y12323.length c12322) y12323] [FSl RStr A25 c26 p24.features, FSl (RI .i64) A28 c29 p24.base, FSl RTree A31 c32 p24.trees] w) ?_ ?_
            · have h := h12472
              obtain ⟨r12474, hr12475, h⟩ := bindS h
              obtain ⟨hg12481, h⟩ := grdS h
              refine WC.held (Sta w0 M [Blk b12038 [.string p24.name, .slice A25 p24.features.length c26, .int .i64 p24.outputs, .slice A28 p24.base.length c29, .slice A31 p24.trees.length c32] 26, Blk b12039 [.slice none 0 0, .slice none 0 0] 70, Row (RSl (RI .i64)) 55 (.slice A12320 y12323.length c12322) y12323] [FSl RStr A25 c26 p24.features, FSl (RI .i64) A28 c29 p24.base, FSl RTree A31 c32 p24.trees]) fol hS rfl ?_
              intro w hS
              refine HL.val 0 #[true, false, false, false, false, false, false, false, false, false] rfl (by kernel_rfl) (by kernel_rfl) (by kernel_rfl) rfl rfl (hS.pick [0, 1, 4] [0, 1, 2] rfl) (fun w hS => R_fieldB o70_0 rfl) ?_
              refine HL.val 2 #[true, false, true, false, false, false, false, false, false, false] rfl (by kernel_rfl) (by kernel_rfl) (by kernel_rfl) rfl rfl (hS.pick [0, 1, 4] [0, 1, 2] rfl) (fun w hS => R_fieldB o26_4 rfl) ?_
              refine HL.val 3 #[true, false, true, true, false, false, false, false, false, false] rfl (by kernel_rfl) (by kernel_rfl) (by kernel_rfl) rfl rfl (hS.pick [0, 1, 4] [0, 1, 2] rfl) (fun w hS => R_load1 g24 rfl (hS.cell 0 rfl rfl)) ?_
              refine HL.val 4 #[true, false, true, true, true, false, false, false, false, false] rfl (by kernel_rfl) (by kernel_rfl) (by kernel_rfl) rfl rfl (hS.pick [0, 1, 4] [0, 1, 2] rfl) (fun w hS => R_move rfl) ?_
              refine HL.all [1, 5] (by kernel_rfl) rfl ⟨?_, ?_, trivial⟩
              · refine HO.of #[true, true, true, true, true, false, false, false, false, false] rfl rfl ?_
                refine WL.val (R_load1 g62 rfl (hS.cell 2 rfl rfl)) rfl rfl ?_
                refine WL.nil ?_
                refine HL.next (hS.pick [0, 1, 4] [0, 1, 2] rfl) ?_
                refine HL.all [5] (by kernel_rfl) rfl ⟨?_, trivial⟩
                refine HO.of #[true, true, true, true, true, true, false, false, false, false] rfl rfl ?_
                have hS0 := hS
                refine WL.call e183 rfl rfl hS (lists_Thresholds_ok (hS).mx_lt k p24.trees y12324 (hS.sl 2 rfl) _ hr12475) rfl ?_
                intro v w hB hS hP
                obtain ⟨A12476, n12477, c12478, rfl, ho12479⟩ := hP
                obtain rfl := Row.len ho12479
                have hS := hS0.ofRow hB ho12479
                refine WL.nil ?_
                refine HL.next (hS.pick [1, 2, 5] [0, 1, 2] rfl) ?_
                refine HL.all [6] (by kernel_rfl) rfl ⟨?_, trivial⟩
                refine HO.of #[true, true, true, true, true, true, true, false, false, false] rfl rfl ?_
                refine WL.lit [.slice A12476 r12474.length c12478] u62 rfl (by kernel_rfl) hS rfl ?_
                intro b12480 w hS
                refine WL.nil ?_
                refine HL.next (hS.pick [2, 3, 6] [0, 1, 2] rfl) ?_
                refine HL.all [7] (by kernel_rfl) rfl ⟨?_, trivial⟩
                refine HO.of #[true, true, true, true, true, true, true, true, false, false] rfl rfl ?_
                have hS := hS.freeze 1 rfl
                refine WL.append (R := (RSl RF)) (zs := [r12474]) 4 u62 z65 rfl rfl rfl hS rfl rfl rfl rfl (Blk.src (hS.res 0 rfl) ⟨[_], _, rfl, ⟨A12476, c12478, rfl, (hS.sl 0 rfl).1, (hS.sl 0 rfl).2⟩, rfl⟩) hg12481 rfl rfl ?_
                intro A12482 c12483 w hS
                refine WL.nil ?_
                refine HL.next (hS.pick [1, 2, 5] [1, 2, 3] rfl) ?_
                refine HL.val 8 #[true, true, true, true, true, true, true, true, true, false] rfl (by kernel_rfl) (by kernel_rfl) (by kernel_rfl) rfl rfl (hS.pick [1, 2, 5] [1, 2, 3] rfl) (fun w hS => R_fieldB o70_0 rfl) ?_
                refine HL.all [9] (by kernel_rfl) rfl ⟨?_, trivial⟩
                refine HO.of #[true, true, true, true, true, true, true, true, true, true] rfl rfl ?_
                refine WL.storeB 3 [.slice A12482 ((y12319 ++ [r12474]).length) c12483] g62 hS rfl rfl rfl rfl rfl rfl rfl [.slice A12482 ((y12319 ++ [r12474]).length) c12483, .slice A12320 y12323.length c12322] rfl ?_
                intro w hS
                refine WL.nil ?_
                refine HL.next (hS.pick [1, 2, 5] [1, 2, 3] rfl) ?_
                refine HL.done (by kernel_rfl) (HL.keepQ ?_)
                have hS := hS.pick [1, 2, 3, 4, 5] [1, 2, 3] rfl
                exact WQ.toJ ⟨(y12319 ++ [r12474]), A12482, (y12319 ++ [r12474]).length, c12483, Option.some.inj h, rfl, hS⟩ ⟨rfl, rfl, rfl, rfl, rfl, rfl, trivial⟩
              · refine HO.of #[true, false, true, true, true, true, false, false, false, false] rfl rfl ?_
                have hS0 := hS
                refine WL.call e183 rfl rfl hS (lists_Thresholds_ok (hS).mx_lt k p24.trees y12324 (hS.sl 2 rfl) _ hr12475) rfl ?_
                intro v w hB hS hP
                obtain ⟨A12476, n12477, c12478, rfl, ho12479⟩ := hP
                obtain rfl := Row.len ho12479
                have hS := hS0.ofRow hB ho12479
                refine WL.nil ?_
                refine HL.next (hS.pick [1, 2, 5] [0, 1, 2] rfl) ?_
                refine HL.all [1, 6] (by kernel_rfl) rfl ⟨?_, ?_, trivial⟩
                · refine HO.of #[true, true, true, true, true, true, false, false, false, false] rfl rfl ?_
                  refine WL.val (R_load1 g62 rfl (hS.cell 3 rfl rfl)) rfl rfl ?_
                  refine WL.nil ?_
                  refine HL.next (hS.pick [1, 2, 5] [0, 1, 2] rfl) ?_
                  refine HL.all [6] (by kernel_rfl) rfl ⟨?_, trivial⟩
                  refine HO.of #[true, true, true, true, true, true, true, false, false, false] rfl rfl ?_
                  refine WL.lit [.slice A12476 r12474.length c12478] u62 rfl (by kernel_rfl) hS rfl ?_
                  intro b12480 w hS
                  refine WL.nil ?_
                  refine HL.next (hS.pick [2, 3, 6] [0, 1, 2] rfl) ?_
                  refine HL.all [7] (by kernel_rfl) rfl ⟨?_, trivial⟩
                  refine HO.of #[true, true, true, true, true, true, true, true, false, false] rfl rfl ?_
                  have hS := hS.freeze 1 rfl
                  refine WL.append (R := (RSl RF)) (zs := [r12474]) 4 u62 z65 rfl rfl rfl hS rfl rfl rfl rfl (Blk.src (hS.res 0 rfl) ⟨[_], _, rfl, ⟨A12476, c12478, rfl, (hS.sl 0 rfl).1, (hS.sl 0 rfl).2⟩, rfl⟩) hg12481 rfl rfl ?_
                  intro A12482 c12483 w hS
                  refine WL.nil ?_
                  refine HL.next (hS.pick [1, 2, 5] [1, 2, 3] rfl) ?_
                  refine HL.val 8 #[true, true, true, true, true, true, true, true, true, false] rfl (by kernel_rfl) (by kernel_rfl) (by kernel_rfl) rfl rfl (hS.pick [1, 2, 5] [1, 2, 3] rfl) (fun w hS => R_fieldB o70_0 rfl) ?_
                  refine HL.all [9] (by kernel_rfl) rfl ⟨?_, trivial⟩
                  refine HO.of #[true, true, true, true, true, true, true, true, true, true] rfl rfl ?_
                  refine WL.storeB 3 [.slice A12482 ((y12319 ++ [r12474]).length) c12483] g62 hS rfl rfl rfl rfl rfl rfl rfl [.slice A12482 ((y12319 ++ [r12474]).length) c12483, .slice A12320 y12323.length c12322] rfl ?_
                  intro w hS
                  refine WL.nil ?_
                  refine HL.next (hS.pick [1, 2, 5] [1, 2, 3] rfl) ?_
                  refine HL.done (by kernel_rfl) (HL.keepQ ?_)
                  have hS := hS.pick [1, 2, 3, 4, 5] [1, 2, 3] rfl
                  exact WQ.toJ ⟨(y12319 ++ [r12474]), A12482, (y12319 ++ [r12474]).length, c12483, Option.some.inj h, rfl, hS⟩ ⟨rfl, rfl, rfl, rfl, rfl, rfl, trivial⟩
                · refine HO.of #[true, false, true, true, true, true, true, false, false, false] rfl rfl ?_
                  refine WL.lit [.slice A12476 r12474.length c12478] u62 rfl (by kernel_rfl) hS rfl ?_
                  intro b12480 w hS
                  refine WL.nil ?_
                  refine HL.next (hS.pick [2, 3, 6] [0, 1, 2] rfl) ?_
                  refine HL.all [1] (by kernel_rfl) rfl ⟨?_, trivial⟩
                  refine HO.of #[true, true, true, true, true, true, true, false, false, false] rfl rfl ?_
                  refine WL.val (R_load1 g62 rfl (hS.cell 4 rfl rfl)) rfl rfl ?_
                  refine WL.nil ?_
                  refine HL.next (hS.pick [2, 3, 6] [0, 1, 2] rfl) ?_
                  refine HL.all [7] (by kernel_rfl) rfl ⟨?_, trivial⟩
                  refine HO.of #[true, true, true, true, true, true, true, true, false, false] rfl rfl ?_
                  have hS := hS.freeze 1 rfl
                  refine WL.append (R := (RSl RF)) (zs := [r12474]) 4 u62 z65 rfl rfl rfl hS rfl rfl rfl rfl (Blk.src (hS.res 0 rfl) ⟨[_], _, rfl, ⟨A12476, c12478, rfl, (hS.sl 0 rfl).1, (hS.sl 0 rfl).2⟩, rfl⟩) hg12481 rfl rfl ?_
                  intro A12482 c12483 w hS
                  refine WL.nil ?_
                  refine HL.next (hS.pick [1, 2, 5] [1, 2, 3] rfl) ?_
                  refine HL.val 8 #[true, true, true, true, true, true, true, true, true, false] rfl (by kernel_rfl) (by kernel_rfl) (by kernel_rfl) rfl rfl (hS.pick [1, 2, 5] [1, 2, 3] rfl) (fun w hS => R_fieldB o70_0 rfl) ?_
                  refine HL.all [9] (by kernel_rfl) rfl ⟨?_, trivial⟩
                  refine HO.of #[true, true, true, true, true, true, true, true, true, true] rfl rfl ?_
                  refine WL.storeB 3 [.slice A12482 ((y12319 ++ [r12474]).length) c12483] g62 hS rfl rfl rfl rfl rfl rfl rfl [.slice A12482 ((y12319 ++ [r12474]).length) c12483, .slice A12320 y12323.length c12322] rfl ?_
                  intro w hS
                  refine WL.nil ?_
                  refine HL.next (hS.pick [1, 2, 5] [1, 2, 3] rfl) ?_
                  refine HL.done (by kernel_rfl) (HL.keepQ ?_)
                  have hS := hS.pick [1, 2, 3, 4, 5] [1, 2, 3] rfl
                  exact WQ.toJ ⟨(y12319 ++ [r12474]), A12482, (y12319 ++ [r12474]).length, c12483, Option.some.inj h, rfl, hS⟩ ⟨rfl, rfl, rfl, rfl, rfl, rfl, trivial⟩
            · rintro _ w ⟨y12470, A12467, n12468, c12469, rfl, rfl, hS⟩
              have h := h12473
              try dsimp only at h
              obtain rfl := Row.len (hS.res 3 rfl)
              obtain ⟨r12484, hr12485, h⟩ := bindS h
              obtain ⟨hg12490, h⟩ := grdS h
              refine WC.held (Sta w0 M [Blk b12038 [.string p24.name, .slice A25 p24.features.length c26, .int .i64 p24.outputs, .slice A28 p24.base.length c29, .slice A31 p24.trees.length c32] 26, Blk b12039 [.slice none 0 0, .slice none 0 0] 70, Row (RSl RF) 65 (.slice A12467 y12470.length c12469) y12470] [FSl RStr A25 c26 p24.features, FSl (RI .i64) A28 c29 p24.base, FSl RTree A31 c32 p24.trees]) fol hS rfl ?_
              intro w hS
              refine HL.val 0 #[true, false, false, false, false, false, false, false, false, false] rfl (by kernel_rfl) (by kernel_rfl) (by kernel_rfl) rfl rfl (hS.pick [0, 1, 3] [0, 1, 2] rfl) (fun w hS => R_fieldB o70_1 rfl) ?_
              refine HL.val 2 #[true, false, true, false, false, false, false, false, false, false] rfl (by kernel_rfl) (by kernel_rfl) (by kernel_rfl) rfl rfl (hS.pick [0, 1, 3] [0, 1, 2] rfl) (fun w hS => R_fieldB o26_4 rfl) ?_
              refine HL.val 3 #[true, false, true, true, false, false, false, false, false, false] rfl (by kernel_rfl) (by kernel_rfl) (by kernel_rfl) rfl rfl (hS.pick [0, 1, 3] [0, 1, 2] rfl) (fun w hS => R_load1 g24 rfl (hS.cell 0 rfl rfl)) ?_
              refine HL.val 4 #[true, false, true, true, true, false, false, false, false, false] rfl (by kernel_rfl) (by kernel_rfl) (by kernel_rfl) rfl rfl (hS.pick [0, 1, 3] [0, 1, 2] rfl) (fun w hS => R_move rfl) ?_
              refine HL.all [1, 5] (by kernel_rfl) rfl ⟨?_, ?_, trivial⟩
              · refine HO.of #[true, true, true, true, true, false, false, false, false, false] rfl rfl ?_
                refine WL.val (R_load1 g68 rfl (hS.cell 2 rfl rfl)) rfl rfl ?_
                refine WL.nil ?_
                refine HL.next (hS.pick [0, 1, 3] [0, 1, 2] rfl) ?_
                refine HL.all [5] (by kernel_rfl) rfl ⟨?_, trivial⟩
                refine HO.of #[true, true, true, true, true, true, false, false, false, false] rfl rfl ?_
                refine WL.call e184 rfl rfl hS (lists_Categories_ok (hS).mx_lt k p24.trees y12324 (hS.sl 2 rfl) _ hr12485) rfl ?_
                intro v w hB hS hP
                obtain ⟨A12486, c12487, rfl, ho12488⟩ := hP
                have hS := hS.addF (FSl (RI .i64) A12486 c12487 r12484) ho12488
                refine WL.nil ?_
                refine HL.next (hS.pick [0, 1, 3] [1, 2, 3] rfl) ?_
                refine HL.all [6] (by kernel_rfl) rfl ⟨?_, trivial⟩
                refine HO.of #[true, true, true, true, true, true, true, false, false, false] rfl rfl ?_
                refine WL.lit [.slice A12486 r12484.length c12487] u68 rfl (by kernel_rfl) hS rfl ?_
                intro b12489 w hS
                refine WL.nil ?_
                refine HL.next (hS.pick [1, 2, 4] [1, 2, 3] rfl) ?_
                refine HL.all [7] (by kernel_rfl) rfl ⟨?_, trivial⟩
                refine HO.of #[true, true, true, true, true, true, true, true, false, false] rfl rfl ?_
                refine WL.append (R := (RSl (RI .i64))) (zs := [r12484]) 5 u68 z55 rfl rfl rfl hS rfl rfl rfl rfl (Blk.src (hS.res 0 rfl) ⟨[_], _, rfl, ⟨A12486, c12487, rfl, (hS.sl 0 rfl).1, (hS.sl 0 rfl).2⟩, rfl⟩) hg12490 rfl rfl ?_
                intro A12491 c12492 w hS
                refine WL.nil ?_
                refine HL.next (hS.pick [1, 2, 4] [1, 2, 3] rfl) ?_
                refine HL.val 8 #[true, true, true, true, true, true, true, true, true, false] rfl (by kernel_rfl) (by kernel_rfl) (by kernel_rfl) rfl rfl (hS.pick [1, 2, 4] [1, 2, 3] rfl) (fun w hS => R_fieldB o70_1 rfl) ?_
                refine HL.all [9] (by kernel_rfl) rfl ⟨?_, trivial⟩
                refine HO.of #[true, true, true, true, true, true, true, true, true, true] rfl rfl ?_
                refine WL.storeB 3 [.slice A12491 ((y12323 ++ [r12484]).length) c12492] g68 hS rfl rfl rfl rfl rfl rfl rfl [.slice A12467 y12470.length c12469, .slice A12491 ((y12323 ++ [r12484]).length) c12492] rfl ?_
                intro w hS
                refine WL.nil ?_
                refine HL.next (hS.pick [1, 2, 4] [1, 2, 3] rfl) ?_
                refine HL.done (by kernel_rfl) (HL.keepQ ?_)
                refine WQ.blockN ?_
                have hS := hS.pick [1, 2, 3, 4, 5] [1, 2, 3] rfl
                exact WQ.toJ ⟨y12470, (y12323 ++ [r12484]), A12467, y12470.length, c12469, A12491, (y12323 ++ [r12484]).length, c12492, Option.some.inj h, rfl, hS⟩ ⟨rfl, rfl, rfl, rfl, rfl, trivial⟩
              · refine HO.of #[true, false, true, true, true, true, false, false, false, false] rfl rfl ?_
                refine WL.call e184 rfl rfl hS (lists_Categories_ok (hS).mx_lt k p24.trees y12324 (hS.sl 2 rfl) _ hr12485) rfl ?_
                intro v w hB hS hP
                obtain ⟨A12486, c12487, rfl, ho12488⟩ := hP
                have hS := hS.addF (FSl (RI .i64) A12486 c12487 r12484) ho12488
                refine WL.nil ?_
                refine HL.next (hS.pick [0, 1, 3] [1, 2, 3] rfl) ?_
                refine HL.all [1, 6] (by kernel_rfl) rfl ⟨?_, ?_, trivial⟩
                · refine HO.of #[true, true, true, true, true, true, false, false, false, false] rfl rfl ?_
                  refine WL.val (R_load1 g68 rfl (hS.cell 2 rfl rfl)) rfl rfl ?_
                  refine WL.nil ?_
                  refine HL.next (hS.pick [0, 1, 3] [1, 2, 3] rfl) ?_
                  refine HL.all [6] (by kernel_rfl) rfl ⟨?_, trivial⟩
                  refine HO.of #[true, true, true, true, true, true, true, false, false, false] rfl rfl ?_
                  refine WL.lit [.slice A12486 r12484.length c12487] u68 rfl (by kernel_rfl) hS rfl ?_
                  intro b12489 w hS
                  refine WL.nil ?_
                  refine HL.next (hS.pick [1, 2, 4] [1, 2, 3] rfl) ?_
                  refine HL.all [7] (by kernel_rfl) rfl ⟨?_, trivial⟩
                  refine HO.of #[true, true, true, true, true, true, true, true, false, false] rfl rfl ?_
                  refine WL.append (R := (RSl (RI .i64))) (zs := [r12484]) 5 u68 z55 rfl rfl rfl hS rfl rfl rfl rfl (Blk.src (hS.res 0 rfl) ⟨[_], _, rfl, ⟨A12486, c12487, rfl, (hS.sl 0 rfl).1, (hS.sl 0 rfl).2⟩, rfl⟩) hg12490 rfl rfl ?_
                  intro A12491 c12492 w hS
                  refine WL.nil ?_
                  refine HL.next (hS.pick [1, 2, 4] [1, 2, 3] rfl) ?_
                  refine HL.val 8 #[true, true, true, true, true, true, true, true, true, false] rfl (by kernel_rfl) (by kernel_rfl) (by kernel_rfl) rfl rfl (hS.pick [1, 2, 4] [1, 2, 3] rfl) (fun w hS => R_fieldB o70_1 rfl) ?_
                  refine HL.all [9] (by kernel_rfl) rfl ⟨?_, trivial⟩
                  refine HO.of #[true, true, true, true, true, true, true, true, true, true] rfl rfl ?_
                  refine WL.storeB 3 [.slice A12491 ((y12323 ++ [r12484]).length) c12492] g68 hS rfl rfl rfl rfl rfl rfl rfl [.slice A12467 y12470.length c12469, .slice A12491 ((y12323 ++ [r12484]).length) c12492] rfl ?_
                  intro w hS
                  refine WL.nil ?_
                  refine HL.next (hS.pick [1, 2, 4] [1, 2, 3] rfl) ?_
                  refine HL.done (by kernel_rfl) (HL.keepQ ?_)
                  refine WQ.blockN ?_
                  have hS := hS.pick [1, 2, 3, 4, 5] [1, 2, 3] rfl
                  exact WQ.toJ ⟨y12470, (y12323 ++ [r12484]), A12467, y12470.length, c12469, A12491, (y12323 ++ [r12484]).length, c12492, Option.some.inj h, rfl, hS⟩ ⟨rfl, rfl, rfl, rfl, rfl, trivial⟩
                · refine HO.of #[true, false, true, true, true, true, true, false, false, false] rfl rfl ?_
                  refine WL.lit [.slice A12486 r12484.length c12487] u68 rfl (by kernel_rfl) hS rfl ?_
                  intro b12489 w hS
                  refine WL.nil ?_
                  refine HL.next (hS.pick [1, 2, 4] [1, 2, 3] rfl) ?_
                  refine HL.all [1] (by kernel_rfl) rfl ⟨?_, trivial⟩
                  refine HO.of #[true, true, true, true, true, true, true, false, false, false] rfl rfl ?_
                  refine WL.val (R_load1 g68 rfl (hS.cell 3 rfl rfl)) rfl rfl ?_
                  refine WL.nil ?_
                  refine HL.next (hS.pick [1, 2, 4] [1, 2, 3] rfl) ?_
                  refine HL.all [7] (by kernel_rfl) rfl ⟨?_, trivial⟩
                  refine HO.of #[true, true, true, true, true, true, true, true, false, false] rfl rfl ?_
                  refine WL.append (R := (RSl (RI .i64))) (zs := [r12484]) 5 u68 z55 rfl rfl rfl hS rfl rfl rfl rfl (Blk.src (hS.res 0 rfl) ⟨[_], _, rfl, ⟨A12486, c12487, rfl, (hS.sl 0 rfl).1, (hS.sl 0 rfl).2⟩, rfl⟩) hg12490 rfl rfl ?_
                  intro A12491 c12492 w hS
                  refine WL.nil ?_
                  refine HL.next (hS.pick [1, 2, 4] [1, 2, 3] rfl) ?_
                  refine HL.val 8 #[true, true, true, true, true, true, true, true, true, false] rfl (by kernel_rfl) (by kernel_rfl) (by kernel_rfl) rfl rfl (hS.pick [1, 2, 4] [1, 2, 3] rfl) (fun w hS => R_fieldB o70_1 rfl) ?_
                  refine HL.all [9] (by kernel_rfl) rfl ⟨?_, trivial⟩
                  refine HO.of #[true, true, true, true, true, true, true, true, true, true] rfl rfl ?_
                  refine WL.storeB 3 [.slice A12491 ((y12323 ++ [r12484]).length) c12492] g68 hS rfl rfl rfl rfl rfl rfl rfl [.slice A12467 y12470.length c12469, .slice A12491 ((y12323 ++ [r12484]).length) c12492] rfl ?_
                  intro w hS
                  refine WL.nil ?_
                  refine HL.next (hS.pick [1, 2, 4] [1, 2, 3] rfl) ?_
                  refine HL.done (by kernel_rfl) (HL.keepQ ?_)
                  refine WQ.blockN ?_
                  have hS := hS.pick [1, 2, 3, 4, 5] [1, 2, 3] rfl
                  exact WQ.toJ ⟨y12470, (y12323 ++ [r12484]), A12467, y12470.length, c12469, A12491, (y12323 ++ [r12484]).length, c12492, Option.some.inj h, rfl, hS⟩ ⟨rfl, rfl, rfl, rfl, rfl, trivial⟩
          · rintro _ w ⟨y12449, y12453, A12446, n12447, c12448, A12450, n12451, c12452, rfl, rfl, hS⟩
            have h := h12456
            try dsimp only at h
            obtain rfl := Row.len (hS.res 3 rfl)
            obtain rfl := Row.len (hS.res 4 rfl)
            refine WC.reg ?_
            refine WL.val (R_ar rfl rfl rfl) rfl rfl ?_
            refine WL.val (R_move rfl) rfl rfl ?_
            refine WL.nil ?_
            have hS := hS.pick [0, 1, 2, 3, 4] [0, 1, 2] rfl
            exact WQ.toJ ⟨y12449, y12453, (IntKind.i64.wrap (y12324 + (1 : Int))), A12446, y12449.length, c12448, A12450, y12453.length, c12452, rfl, hS, h⟩ ⟨rfl, rfl, rfl, rfl, rfl, trivial⟩
        · have h := ifF hb12409 h
          refine WC.exit ?_
          refine WQ.thenE ?_
          refine WQ.thenE ?_
          refine WQ.blockE ?_
          have hS := hS.pick [1, 2, 3, 4] [] rfl
          exact WQ.toJ ⟨y12319, y12323, A12316, y12319.length, c12318, A12320, y12323.length, c12322, Option.some.inj h, rfl, hS⟩ ⟨rfl, rfl, trivial⟩
    · rintro _ w ⟨y12224, y12228, A12221, n12222, c12223, A12225, n12226, c12227, rfl, rfl, hS⟩
      have h := h12231
      try dsimp only at h
      obtain rfl := Row.len (hS.res 2 rfl)
      obtain rfl := Row.len (hS.res 3 rfl)
      refine WC.seq ?_
      refine WC.reg ?_
      refine WL.val (R_loadA g70 rfl rfl (hS.cells 1 (o := 0) (m := 2) rfl rfl)) rfl rfl ?_
      refine WL.storeB 0 [.slice A12221 y12224.length c12223, .slice A12225 y12228.length c12227] g70 hS rfl rfl rfl rfl rfl rfl rfl [.slice A12221 y12224.length c12223, .slice A12225 y12228.length c12227] rfl ?_
      intro w hS
      refine WL.val (R_assign rfl) rfl rfl ?_
      refine WL.nil ?_
      refine WQ.thenC ?_
      refine WC.ret ?_
      have hS := hS.freeze 2 rfl
      have hS := hS.freeze 2 rfl
      have hS0 := hS
      have h := Option.some.inj h
      obtain ⟨rfl, rfl⟩ := Prod.mk.inj h
      exact ret_2 rfl (resV_B 0 hS0 rfl rfl g70 rfl) rfl ⟨_, rfl, hS.bel, ⟨A12221, c12223, A12225, c12227, rfl, hS.out 1 rfl, hS.out 0 rfl⟩⟩

def bins_below_float64_uint64__order_Key_l0 (k : Nat) (p12562 : List Nat) (p12566 : Int) : Nat → Int → Int → Option Int
  | 0, _, _ => none
  | m + 1, y12665, y12666 =>
    if decide (y12665 < y12666) = true then ((rd p12562 (IntKind.i64.wrap (Int.tdiv (IntKind.i64.wrap (y12665 + y12666)) (2 : Int)))).bind fun x12680 =>
    (order_Key x12680).bind fun r12688 =>
    if decide (r12688 < p12566) = true then (bins_below_float64_uint64__order_Key_l0 k p12562 p12566 m (IntKind.i64.wrap ((IntKind.i64.wrap (Int.tdiv (IntKind.i64.wrap (y12665 + y12666)) (2 : Int))) + (1 : Int))) y12666) else (bins_below_float64_uint64__order_Key_l0 k p12562 p12566 m y12665 (IntKind.i64.wrap (Int.tdiv (IntKind.i64.wrap (y12665 + y12666)) (2 : Int))))) else (some y12665)

def bins_below_float64_uint64__order_Key (k : Nat) (p12562 : List Nat) (p12566 : Int) : Option Int :=
    (bins_below_float64_uint64__order_Key_l0 k p12562 p12566 k (0 : Int) (p12562.length : Int) : Option Int).bind fun y12649 =>
    some y12649

theorem bins_below_float64_uint64__order_Key_ok {w0 : World} {M : MSet} (hM : ∀ k, M k → k < w0.heap.size) (k : Nat) (p12562 : List Nat) (p12566 : Int) {A12563 : Option Addr} {c12564 : Nat} (hs12565 : p12562.length ≤ c12564 ∧ Sl RF M w0 A12563 p12562) (r : Int) (h : bins_below_float64_uint64__order_Key k p12562 p12566 = some r) :
    Calls Tryz.prog 132 #[.slice A12563 p12562.length c12564, .func (.func 133) #[] #[], .int .u64 p12566] w0 (Gives w0 fun v w' => v = .int .i64 r) := by
  have hS := Sta.init hM
  have hS := hS.arg hs12565
  unfold bins_below_float64_uint64__order_Key at h
  refine calls_enter (n := 0) Tryz.func132 rfl [(0, .slice A12563 p12562.length c12564), (1, .func (.func 133) #[] #[]), (2, .int .u64 p12566)] rfl rfl ⟨rfl, rfl, rfl, trivial⟩ ?_
  refine WC.seq ?_
  refine WC.reg ?_
  refine WL.val (R_assign rfl) rfl rfl ?_
  refine WL.nil ?_
  refine WQ.thenC ?_
  refine WC.seq ?_
  refine WC.reg ?_
  refine WL.val (R_move rfl) rfl rfl ?_
  refine WL.val (R_lenS u65 rfl) rfl rfl ?_
  refine WL.val (R_assign rfl) rfl rfl ?_
  refine WL.val (R_assign rfl) rfl rfl ?_
  refine WL.nil ?_
  refine WQ.thenC ?_
  obtain ⟨o12650, h12651, h12652⟩ := bindS h
  refine WC.seqM (fun env w => ∃ (y12649 : Int), y12649 = o12650 ∧ env = [(7, .int .i64 y12649)] ∧ Sta w0 M [] [] w) ?_ ?_
  · have h := h12651
    refine WC.block ?_
    have hS := hS.pick [] [0] rfl
    refine WC.loopJ (fun m env w => ∃ (y12665 : Int), ∃ (y12666 : Int), env = [(0, .slice A12563 p12562.length c12564), (1, .func (.func 133) #[] #[]), (2, .int .u64 p12566), (7, .int .i64 y12665), (8, .int .i64 y12666)] ∧ Sta w0 M [] [FSl RF A12563 c12564 p12562] w ∧ bins_below_float64_uint64__order_Key_l0 k p12562 p12566 m y12665 y12666 = some o12650) k ⟨(0 : Int), (p12562.length : Int), rfl, hS, h⟩ ⟨rfl, rfl, rfl, rfl, rfl, trivial⟩ (fun env w hI => ?_) (fun m env w hI => ?_)
    · obtain ⟨y12665, y12666, rfl, hS, h⟩ := hI
      rw [bins_below_float64_uint64__order_Key_l0] at h
      cases h
    · obtain ⟨y12665, y12666, rfl, hS, h⟩ := hI
      rw [bins_below_float64_uint64__order_Key_l0] at h
      refine WC.seq ?_
      refine WC.seq ?_
      refine WC.reg ?_
      refine WL.val (R_move rfl) rfl rfl ?_
      refine WL.val (R_move rfl) rfl rfl ?_
      refine WL.val (R_cmp rfl rfl rfl) rfl rfl ?_
      refine WL.nil ?_
      refine WQ.thenC ?_
      refine WC.cond rfl (fun hb12679 => ?_) (fun hb12679 => ?_)
      · have h := ifT hb12679 h
        refine WC.skip ?_
        refine WQ.thenC ?_
        refine WC.block ?_
        refine WC.seq ?_
        refine WC.reg ?_
        refine WL.val (R_move rfl) rfl rfl ?_
        refine WL.val (R_move rfl) rfl rfl ?_
        refine WL.val (R_ar rfl rfl rfl) rfl rfl ?_
        refine WL.val (R_quo rfl rfl (by decide)) rfl rfl ?_
        refine WL.val (R_assign rfl) rfl rfl ?_
        refine WL.nil ?_
        refine WQ.thenC ?_
        refine WC.seq ?_
        refine WC.reg ?_
        refine WL.val (R_move rfl) rfl rfl ?_
        refine WL.val (R_move rfl) rfl rfl ?_
        refine WL.val (R_move rfl) rfl rfl ?_
        obtain ⟨x12680, hx12681, h⟩ := bindS h
        obtain ⟨ad12682, cs12683, hA12684, hq12685, hK12686, hc12687⟩ := hS.sget 0 rfl (rdS hx12681).2.2
        obtain rfl := hK12686
        refine WL.val (R_indexAddr u65 z54 rfl rfl hA12684 (rdS hx12681).1 hq12685) rfl rfl ?_
        refine WL.val (R_load1 g54 rfl (hc12687 0 _ rfl)) rfl rfl ?_
        obtain ⟨r12688, hr12689, h⟩ := bindS h
        refine WL.call e133 rfl rfl hS (order_Key_ok (hS).mx_lt x12680  _ hr12689) rfl ?_
        intro v w hB hS hP
        obtain ⟨rfl⟩ := hP
        refine WL.val (R_move rfl) rfl rfl ?_
        refine WL.val (R_cmp rfl rfl rfl) rfl rfl ?_
        refine WL.nil ?_
        refine WQ.thenC ?_
        refine WC.cond rfl (fun hb12690 => ?_) (fun hb12690 => ?_)
        · have h := ifT hb12690 h
          refine WC.reg ?_
          refine WL.val (R_move rfl) rfl rfl ?_
          refine WL.val (R_ar rfl rfl rfl) rfl rfl ?_
          refine WL.val (R_assign rfl) rfl rfl ?_
          refine WL.nil ?_
          refine WQ.blockN ?_
          have hS := hS.pick [] [0] rfl
          exact WQ.toJ ⟨(IntKind.i64.wrap ((IntKind.i64.wrap (Int.tdiv (IntKind.i64.wrap (y12665 + y12666)) (2 : Int))) + (1 : Int))), y12666, rfl, hS, h⟩ ⟨rfl, rfl, rfl, rfl, rfl, trivial⟩
        · have h := ifF hb12690 h
          refine WC.reg ?_
          refine WL.val (R_move rfl) rfl rfl ?_
          refine WL.val (R_assign rfl) rfl rfl ?_
          refine WL.nil ?_
          refine WQ.blockN ?_
          have hS := hS.pick [] [0] rfl
          exact WQ.toJ ⟨y12665, (IntKind.i64.wrap (Int.tdiv (IntKind.i64.wrap (y12665 + y12666)) (2 : Int))), rfl, hS, h⟩ ⟨rfl, rfl, rfl, rfl, rfl, trivial⟩
      · have h := ifF hb12679 h
        refine WC.exit ?_
        refine WQ.thenE ?_
        refine WQ.thenE ?_
        refine WQ.blockE ?_
        have hS := hS.pick [] [] rfl
        exact WQ.toJ ⟨y12665, Option.some.inj h, rfl, hS⟩ ⟨rfl, trivial⟩
  · rintro _ w ⟨y12649, rfl, rfl, hS⟩
    have h := h12652
    try dsimp only at h
    refine WC.seq ?_
    refine WC.reg ?_
    refine WL.val (R_move rfl) rfl rfl ?_
    refine WL.val (R_assign rfl) rfl rfl ?_
    refine WL.nil ?_
    refine WQ.thenC ?_
    refine WC.ret ?_
    have hS0 := hS
    obtain rfl := Option.some.inj h
    exact ret_1 rfl rfl ⟨_, rfl, hS.bel, rfl⟩

def bins_Compile_1 (p12746 : Int) : Option Int :=
    some p12746

theorem bins_Compile_1_ok {w0 : World} {M : MSet} (hM : ∀ k, M k → k < w0.heap.size) (p12746 : Int) (r : Int) (h : bins_Compile_1 p12746 = some r) :
    Calls Tryz.prog 135 #[.int .i64 p12746] w0 (Gives w0 fun v w' => v = .int .i64 r) := by
  have hS := Sta.init hM
  unfold bins_Compile_1 at h
  refine calls_enter (n := 0) Tryz.func135 rfl [(0, .int .i64 p12746)] rfl rfl ⟨rfl, trivial⟩ ?_
  refine WC.seq ?_
  refine WC.reg ?_
  refine WL.val (R_assign rfl) rfl rfl ?_
  refine WL.nil ?_
  refine WQ.thenC ?_
  refine WC.seq ?_
  refine WC.reg ?_
  refine WL.val (R_move rfl) rfl rfl ?_
  refine WL.val (R_assign rfl) rfl rfl ?_
  refine WL.nil ?_
  refine WQ.thenC ?_
  refine WC.ret ?_
  have hS0 := hS
  obtain rfl := Option.some.inj h
  exact ret_1 rfl rfl ⟨_, rfl, hS.bel, rfl⟩

def bins_below_int_int__bins_Compile_1_l0 (k : Nat) (p12732 : List Int) (p12736 : Int) : Nat → Int → Int → Option Int
  | 0, _, _ => none
  | m + 1, y12836, y12837 =>
    if decide (y12836 < y12837) = true then ((rd p12732 (IntKind.i64.wrap (Int.tdiv (IntKind.i64.wrap (y12836 + y12837)) (2 : Int)))).bind fun x12851 =>
    (bins_Compile_1 x12851).bind fun r12859 =>
    if decide (r12859 < p12736) = true then (bins_below_int_int__bins_Compile_1_l0 k p12732 p12736 m (IntKind.i64.wrap ((IntKind.i64.wrap (Int.tdiv (IntKind.i64.wrap (y12836 + y12837)) (2 : Int))) + (1 : Int))) y12837) else (bins_below_int_int__bins_Compile_1_l0 k p12732 p12736 m y12836 (IntKind.i64.wrap (Int.tdiv (IntKind.i64.wrap (y12836 + y12837)) (2 : Int))))) else (some y12836)

def bins_below_int_int__bins_Compile_1 (k : Nat) (p12732 : List Int) (p12736 : Int) : Option Int :=
    (bins_below_int_int__bins_Compile_1_l0 k p12732 p12736 k (0 : Int) (p12732.length : Int) : Option Int).bind fun y12820 =>
    some y12820

theorem bins_below_int_int__bins_Compile_1_ok {w0 : World} {M : MSet} (hM : ∀ k, M k → k < w0.heap.size) (k : Nat) (p12732 : List Int) (p12736 : Int) {A12733 : Option Addr} {c12734 : Nat} (hs12735 : p12732.length ≤ c12734 ∧ Sl (RI .i64) M w0 A12733 p12732) (r : Int) (h : bins_below_int_int__bins_Compile_1 k p12732 p12736 = some r) :
    Calls Tryz.prog 134 #[.slice A12733 p12732.length c12734, .func (.func 135) #[] #[], .int .i64 p12736] w0 (Gives w0 fun v w' => v = .int .i64 r) := by
  have hS := Sta.init hM
  have hS := hS.arg hs12735
  unfold bins_below_int_int__bins_Compile_1 at h
  refine calls_enter (n := 0) Tryz.func134 rfl [(0, .slice A12733 p12732.length c12734), (1, .func (.func 135) #[] #[]), (2, .int .i64 p12736)] rfl rfl ⟨rfl, rfl, rfl, trivial⟩ ?_
  refine WC.seq ?_
  refine WC.reg ?_
  refine WL.val (R_assign rfl) rfl rfl ?_
  refine WL.nil ?_
  refine WQ.thenC ?_
  refine WC.seq ?_
  refine WC.reg ?_
  refine WL.val (R_move rfl) rfl rfl ?_
  refine WL.val (R_lenS u55 rfl) rfl rfl ?_
  refine WL.val (R_assign rfl) rfl rfl ?_
  refine WL.val (R_assign rfl) rfl rfl ?_
  refine WL.nil ?_
  refine WQ.thenC ?_
  obtain ⟨o12821, h12822, h12823⟩ := bindS h
  refine WC.seqM (fun env w => ∃ (y12820 : Int), y12820 = o12821 ∧ env = [(7, .int .i64 y12820)] ∧ Sta w0 M [] [] w) ?_ ?_
  · have h := h12822
    refine WC.block ?_
    have hS := hS.pick [] [0] rfl
    refine WC.loopJ (fun m env w => ∃ (y12836 : Int), ∃ (y12837 : Int), env = [(0, .slice A12733 p12732.length c12734), (1, .func (.func 135) #[] #[]), (2, .int .i64 p12736), (7, .int .i64 y12836), (8, .int .i64 y12837)] ∧ Sta w0 M [] [FSl (RI .i64) A12733 c12734 p12732] w ∧ bins_below_int_int__bins_Compile_1_l0 k p12732 p12736 m y12836 y12837 = some o12821) k ⟨(0 : Int), (p12732.length : Int), rfl, hS, h⟩ ⟨rfl, rfl, rfl, rfl, rfl, trivial⟩ (fun env w hI => ?_) (fun m env w hI => ?_)
    · obtain ⟨y12836, y12837, rfl, hS, h⟩ := hI
      rw [bins_below_int_int__bins_Compile_1_l0] at h
      cases h
    · obtain ⟨y12836, y12837, rfl, hS, h⟩ := hI
      rw [bins_below_int_int__bins_Compile_1_l0] at h
      refine WC.seq ?_
      refine WC.seq ?_
      refine WC.reg ?_
      refine WL.val (R_move rfl) rfl rfl ?_
      refine WL.val (R_move rfl) rfl rfl ?_
      refine WL.val (R_cmp rfl rfl rfl) rfl rfl ?_
      refine WL.nil ?_
      refine WQ.thenC ?_
      refine WC.cond rfl (fun hb12850 => ?_) (fun hb12850 => ?_)
      · have h := ifT hb12850 h
        refine WC.skip ?_
        refine WQ.thenC ?_
        refine WC.block ?_
        refine WC.seq ?_
        refine WC.reg ?_
        refine WL.val (R_move rfl) rfl rfl ?_
        refine WL.val (R_move rfl) rfl rfl ?_
        refine WL.val (R_ar rfl rfl rfl) rfl rfl ?_
        refine WL.val (R_quo rfl rfl (by decide)) rfl rfl ?_
        refine WL.val (R_assign rfl) rfl rfl ?_
        refine WL.nil ?_
        refine WQ.thenC ?_
        refine WC.seq ?_
        refine WC.reg ?_
        refine WL.val (R_move rfl) rfl rfl ?_
        refine WL.val (R_move rfl) rfl rfl ?_
        refine WL.val (R_move rfl) rfl rfl ?_
        obtain ⟨x12851, hx12852, h⟩ := bindS h
        obtain ⟨ad12853, cs12854, hA12855, hq12856, hK12857, hc12858⟩ := hS.sget 0 rfl (rdS hx12852).2.2
        obtain rfl := hK12857
        refine WL.val (R_indexAddr u55 z3 rfl rfl hA12855 (rdS hx12852).1 hq12856) rfl rfl ?_
        refine WL.val (R_load1 g3 rfl (hc12858 0 _ rfl)) rfl rfl ?_
        obtain ⟨r12859, hr12860, h⟩ := bindS h
        refine WL.call e135 rfl rfl hS (bins_Compile_1_ok (hS).mx_lt x12851  _ hr12860) rfl ?_
        intro v w hB hS hP
        obtain ⟨rfl⟩ := hP
        refine WL.val (R_move rfl) rfl rfl ?_
        refine WL.val (R_cmp rfl rfl rfl) rfl rfl ?_
        refine WL.nil ?_
        refine WQ.thenC ?_
        refine WC.cond rfl (fun hb12861 => ?_) (fun hb12861 => ?_)
        · have h := ifT hb12861 h
          refine WC.reg ?_
          refine WL.val (R_move rfl) rfl rfl ?_
          refine WL.val (R_ar rfl rfl rfl) rfl rfl ?_
          refine WL.val (R_assign rfl) rfl rfl ?_
          refine WL.nil ?_
          refine WQ.blockN ?_
          have hS := hS.pick [] [0] rfl
          exact WQ.toJ ⟨(IntKind.i64.wrap ((IntKind.i64.wrap (Int.tdiv (IntKind.i64.wrap (y12836 + y12837)) (2 : Int))) + (1 : Int))), y12837, rfl, hS, h⟩ ⟨rfl, rfl, rfl, rfl, rfl, trivial⟩
        · have h := ifF hb12861 h
          refine WC.reg ?_
          refine WL.val (R_move rfl) rfl rfl ?_
          refine WL.val (R_assign rfl) rfl rfl ?_
          refine WL.nil ?_
          refine WQ.blockN ?_
          have hS := hS.pick [] [0] rfl
          exact WQ.toJ ⟨y12836, (IntKind.i64.wrap (Int.tdiv (IntKind.i64.wrap (y12836 + y12837)) (2 : Int))), rfl, hS, h⟩ ⟨rfl, rfl, rfl, rfl, rfl, trivial⟩
      · have h := ifF hb12850 h
        refine WC.exit ?_
        refine WQ.thenE ?_
        refine WQ.thenE ?_
        refine WQ.blockE ?_
        have hS := hS.pick [] [] rfl
        exact WQ.toJ ⟨y12836, Option.some.inj h, rfl, hS⟩ ⟨rfl, trivial⟩
  · rintro _ w ⟨y12820, rfl, rfl, hS⟩
    have h := h12823
    try dsimp only at h
    refine WC.seq ?_
    refine WC.reg ?_
    refine WL.val (R_move rfl) rfl rfl ?_
    refine WL.val (R_assign rfl) rfl rfl ?_
    refine WL.nil ?_
    refine WQ.thenC ?_
    refine WC.ret ?_
    have hS0 := hS
    obtain rfl := Option.some.inj h
    exact ret_1 rfl rfl ⟨_, rfl, hS.bel, rfl⟩

def bins_Compile_l2 (k : Nat) (x57796 : Node) (r32586 : Bins) : Nat → (List Int) → Int → Option (List Int)
  | 0, _, _ => none
  | m + 1, y58034, y58035 =>
    if decide (y58035 < (x57796.cats.length : Int)) = true then (((rd x57796.cats y58035).bind fun x58127 =>
    (rd r32586.cats x57796.feature).bind fun x58135 =>
    (bins_below_int_int__bins_Compile_1 k x58135 x58127).bind fun r58146 =>
    if (y58034.length + 1) * 8 ≤ 140737488355328 then (some (y58034 ++ [r58146])) else none : Option (List Int)).bind fun y58123 =>
    bins_Compile_l2 k x57796 r32586 m y58123 (IntKind.i64.wrap (y58035 + (1 : Int)))) else (some y58034)

def bins_Compile_l1 (k : Nat) (x55008 : Tree) (r32586 : Bins) : Nat → (List BinNode) → Int → Option (List BinNode)
  | 0, _, _ => none
  | m + 1, y56872, y56873 =>
    if decide (y56873 < (x55008.nodes.length : Int)) = true then (((rd x55008.nodes y56873).bind fun x57796 =>
    (if decide (x57796.kind = (2 : Int)) = true then ((rd r32586.cuts x57796.feature).bind fun x57830 =>
    (order_Key x57796.threshold).bind fun r57841 =>
    (bins_below_float64_uint64__order_Key k x57830 r57841).bind fun r57843 =>
    some r57843) else (some (0 : Int)) : Option Int).bind fun y57825 =>
    (bins_Compile_l2 k x57796 r32586 k ([] : List Int) (0 : Int) : Option (List Int)).bind fun y57969 =>
    if (y56872.length + 1) * 80 ≤ 140737488355328 then (some (y56872 ++ [(⟨x57796.kind, x57796.value, x57796.feature, y57825, y57969, x57796.missing, x57796.left, x57796.right⟩ : BinNode)])) else none : Option (List BinNode)).bind fun y57792 =>
    bins_Compile_l1 k x55008 r32586 m y57792 (IntKind.i64.wrap (y56873 + (1 : Int)))) else (some y56872)

def bins_Compile_l0 (k : Nat) (p12 : Ensemble) (r32586 : Bins) : Nat → (List BinTree) → Int → Option (List BinTree)
  | 0, _, _ => none
  | m + 1, y47544, y47545 =>
    if decide (y47545 < (p12.trees.length : Int)) = true then (((rd p12.trees y47545).bind fun x55008 =>
    (bins_Compile_l1 k x55008 r32586 k ([] : List BinNode) (0 : Int) : Option (List BinNode)).bind fun y56253 =>
    if (y47544.length + 1) * 32 ≤ 140737488355328 then (some (y47544 ++ [(⟨x55008.output, y56253⟩ : BinTree)])) else none : Option (List BinTree)).bind fun y55004 =>
    bins_Compile_l0 k p12 r32586 m y55004 (IntKind.i64.wrap (y47545 + (1 : Int)))) else (some y47544)

def bins_Compile (k : Nat) (p12 : Ensemble) : Option (Binned × Int) :=
    (bins_Of k p12).bind fun ⟨r32586, r32587⟩ =>
    if decide (r32587 ≠ (0 : Int)) = true then (some ((⟨(⟨[], []⟩ : Bins), (0 : Int), [], []⟩ : Binned), r32587)) else ((if (([] : List Int).length + p12.base.length) * 8 ≤ 140737488355328 then (some (([] : List Int) ++ p12.base)) else none : Option (List Int)).bind fun y32605 =>
    (bins_Compile_l0 k p12 r32586 k ([] : List BinTree) (0 : Int) : Option (List BinTree)).bind fun y42565 =>
    some ((⟨r32586, p12.outputs, y32605, y42565⟩ : Binned), (0 : Int)))

theorem bins_Compile_ok {w0 : World} {M : MSet} (hM : ∀ k, M k → k < w0.heap.size) (k : Nat) (p12 : Ensemble) {A13 : Option Addr} {c14 : Nat} (hs15 : p12.features.length ≤ c14 ∧ Sl RStr M w0 A13 p12.features) {A16 : Option Addr} {c17 : Nat} (hs18 : p12.base.length ≤ c17 ∧ Sl (RI .i64) M w0 A16 p12.base) {A19 : Option Addr} {c20 : Nat} (hs21 : p12.trees.length ≤ c20 ∧ Sl RTree M w0 A19 p12.trees) (r1 : Binned) (r2 : Int) (h : bins_Compile k p12 = some (r1, r2)) :
    Calls Tryz.prog 79 #[.agg #[.string p12.name, .slice A13 p12.features.length c14, .int .i64 p12.outputs, .slice A16 p12.base.length c17, .slice A19 p12.trees.length c20]] w0 (Gives w0 fun v w' => ∃ (A0_0 : Option Addr), ∃ (c0_0 : Nat), ∃ (A0_1 : Option Addr), ∃ (c0_1 : Nat), ∃ (A0_3 : Option Addr), ∃ (c0_3 : Nat), ∃ (A0_4 : Option Addr), ∃ (c0_4 : Nat), v = .tuple #[.agg #[.slice A0_0 r1.bins.cuts.length c0_0, .slice A0_1 r1.bins.cats.length c0_1, .int .i64 r1.outputs, .slice A0_3 r1.base.length c0_3, .slice A0_4 r1.trees.length c0_4], .int .i64 r2] ∧ (r1.bins.cuts.length ≤ c0_0 ∧ Sl (RSl RF) M w' A0_0 r1.bins.cuts) ∧ (r1.bins.cats.length ≤ c0_1 ∧ Sl (RSl (RI .i64)) M w' A0_1 r1.bins.cats) ∧ (r1.base.length ≤ c0_3 ∧ Sl (RI .i64) M w' A0_3 r1.base) ∧ (r1.trees.length ≤ c0_4 ∧ Sl RBinTree M w' A0_4 r1.trees)) := by
  have hS := Sta.init hM
  have hS := hS.arg hs15
  have hS := hS.arg hs18
  have hS := hS.arg hs21
  unfold bins_Compile at h
  refine calls_enter (n := 0) Tryz.func79 rfl [(0, .agg #[.string p12.name, .slice A13 p12.features.length c14, .int .i64 p12.outputs, .slice A16 p12.base.length c17, .slice A19 p12.trees.length c20])] rfl rfl ⟨rfl, trivial⟩ ?_
  refine WC.seq ?_
  refine WC.reg ?_
  refine WL.box [.string p12.name, .slice A13 p12.features.length c14, .int .i64 p12.outputs, .slice A16 p12.base.length c17, .slice A19 p12.trees.length c20] rfl rfl hS rfl ?_
  intro b32584 w hS
  refine WL.alloc _ z147 rfl hS rfl ?_
  intro b32585 w hS
  refine WL.val (R_assign rfl) rfl rfl ?_
  refine WL.nil ?_
  refine WQ.thenC ?_
  refine WC.seq ?_
  refine WC.reg ?_
  refine WL.val (R_loadA g26 rfl rfl (hS.cells 1 (o := 0) (m := 5) rfl rfl)) rfl rfl ?_
  obtain ⟨⟨r32586, r32587⟩, hr32588, h⟩ := bindS h
  try dsimp only at h
  refine WL.call e131 rfl rfl hS (bins_Of_ok (hS).mx_lt k p12 (hS.sl 2 rfl) (hS.sl 1 rfl) (hS.sl 0 rfl) _ _ hr32588) rfl ?_
  intro v w hB hS hP
  obtain ⟨A32589, c32590, A32592, c32593, rfl, ho32591, ho32594⟩ := hP
  have hS := hS.addF (FSl (RSl RF) A32589 c32590 r32586.cuts) ho32591
  have hS := hS.addF (FSl (RSl (RI .i64)) A32592 c32593 r32586.cats) ho32594
  refine WL.val (R_move rfl) rfl rfl ?_
  refine WL.val (R_extract rfl rfl) rfl rfl ?_
  refine WL.val (R_extract rfl rfl) rfl rfl ?_
  refine WL.alloc _ z70 rfl hS rfl ?_
  intro b32595 w hS
  refine WL.storeB 0 [.slice A32589 r32586.cuts.length c32590, .slice A32592 r32586.cats.length c32593] g70 hS rfl rfl rfl rfl rfl rfl rfl [.slice A32589 r32586.cuts.length c32590, .slice A32592 r32586.cats.length c32593] rfl ?_
  intro w hS
  refine WL.val (R_assign rfl) rfl rfl ?_
  refine WL.nil ?_
  refine WQ.thenC ?_
  refine WC.seq ?_
  refine WC.seq ?_
  refine WC.reg ?_
  refine WL.val (R_move rfl) rfl rfl ?_
  refine WL.val (R_cmp rfl rfl rfl) rfl rfl ?_
  refine WL.nil ?_
  refine WQ.thenC ?_
  refine WC.cond rfl (fun hb32596 => ?_) (fun hb32596 => ?_)
  · have h := ifT hb32596 h
    refine WC.seq ?_
    refine WC.reg ?_
    refine WL.val (R_build (cells := #[.slice none 0 0, .slice none 0 0, .int .i64 (0 : Int), .slice none 0 0, .slice none 0 0]) rfl (by kernel_rfl)) rfl rfl ?_
    refine WL.val (R_move rfl) rfl rfl ?_
    refine WL.storeB 1 [.slice none 0 0, .slice none 0 0, .int .i64 (0 : Int), .slice none 0 0, .slice none 0 0] g147 hS rfl rfl rfl rfl rfl rfl rfl [.slice none 0 0, .slice none 0 0, .int .i64 (0 : Int), .slice none 0 0, .slice none 0 0] rfl ?_
    intro w hS
    refine WL.val (R_assign rfl) rfl rfl ?_
    refine WL.nil ?_
    refine WQ.thenC ?_
    refine WC.ret ?_
    refine WQ.thenR ?_
    have hS0 := hS
    have h := Option.some.inj h
    obtain ⟨rfl, rfl⟩ := Prod.mk.inj h
    exact ret_2 rfl (resV_B 1 hS0 rfl rfl g147 rfl) rfl ⟨_, rfl, hS.bel, ⟨none, 0, none, 0, none, 0, none, 0, rfl, slnil, slnil, slnil, slnil⟩⟩
  · have h := ifF hb32596 h
    refine WC.skip ?_
    refine WQ.thenC ?_
    obtain ⟨o32606, h32607, h32608⟩ := bindS h
    refine WC.seqM (fun env w => ∃ (y32605 : List Int), ∃ (b32601 : Nat), ∃ (A32602 : Option Addr), ∃ (n32603 : Nat), ∃ (c32604 : Nat), y32605 = o32606 ∧ env = [(1, .pointer (some ⟨b32584, 0, none⟩)), (2, .pointer (some ⟨b32585, 0, none⟩)), (4, .pointer (some ⟨b32595, 0, none⟩)), (6, .pointer (some ⟨b32601, 0, none⟩))] ∧ Sta w0 M [Blk b32584 [.string p12.name, .slice A13 p12.features.length c14, .int .i64 p12.outputs, .slice A16 p12.base.length c17, .slice A19 p12.trees.length c20] 26, Blk b32585 [.slice none 0 0, .slice none 0 0, .int .i64 (0 : Int), .slice none 0 0, .slice none 0 0] 147, Blk b32595 [.slice A32589 r32586.cuts.length c32590, .slice A32592 r32586.cats.length c32593] 70, Blk b32601 [.slice A32589 r32586.cuts.length c32590, .slice A32592 r32586.cats.length c32593, .int .i64 p12.outputs, .slice A32602 n32603 c32604, .slice none 0 0] 147, Row (RI .i64) 2 (.slice A32602 n32603 c32604) y32605] [FSl RStr A13 c14 p12.features, FSl (RI .i64) A16 c17 p12.base, FSl RTree A19 c20 p12.trees, FSl (RSl RF) A32589 c32590 r32586.cuts, FSl (RSl (RI .i64)) A32592 c32593 r32586.cats] w) ?_ ?_
    · have h := h32607
      obtain ⟨hg32609, h⟩ := grdS h
      refine WC.held (Sta w0 M [Blk b32595 [.slice A32589 r32586.cuts.length c32590, .slice A32592 r32586.cats.length c32593] 70, Blk b32585 [.slice none 0 0, .slice none 0 0, .int .i64 (0 : Int), .slice none 0 0, .slice none 0 0] 147, Blk b32584 [.string p12.name, .slice A13 p12.features.length c14, .int .i64 p12.outputs, .slice A16 p12.base.length c17, .slice A19 p12.trees.length c20] 26] [FSl (RSl (RI .i64)) A32592 c32593 r32586.cats, FSl (RSl RF) A32589 c32590 r32586.cuts, FSl RTree A19 c20 p12.trees, FSl (RI .i64) A16 c17 p12.base, FSl RStr A13 c14 p12.features]) fol hS rfl ?_
      intro w hS
      refine HL.val 0 #[true, false, false, false, false, false, false, false, false] rfl (by kernel_rfl) (by kernel_rfl) (by kernel_rfl) rfl rfl (hS.pick [0, 1, 2] [0, 1, 2, 3, 4] rfl) (fun w hS => R_loadA g70 rfl rfl (hS.cells 0 (o := 0) (m := 2) rfl rfl)) ?_
      refine HL.val 1 #[true, true, false, false, false, false, false, false, false] rfl (by kernel_rfl) (by kernel_rfl) (by kernel_rfl) rfl rfl (hS.pick [0, 1, 2] [0, 1, 2, 3, 4] rfl) (fun w hS => R_fieldB o26_2 rfl) ?_
      refine HL.val 2 #[true, true, true, false, false, false, false, false, false] rfl (by kernel_rfl) (by kernel_rfl) (by kernel_rfl) rfl rfl (hS.pick [0, 1, 2] [0, 1, 2, 3, 4] rfl) (fun w hS => R_load1 g3 rfl (hS.cell 2 rfl rfl)) ?_
      refine HL.val 3 #[true, true, true, true, false, false, false, false, false] rfl (by kernel_rfl) (by kernel_rfl) (by kernel_rfl) rfl rfl (hS.pick [0, 1, 2] [0, 1, 2, 3, 4] rfl) (fun w hS => R_fieldB o26_3 rfl) ?_
      refine HL.val 4 #[true, true, true, true, true, false, false, false, false] rfl (by kernel_rfl) (by kernel_rfl) (by kernel_rfl) rfl rfl (hS.pick [0, 1, 2] [0, 1, 2, 3, 4] rfl) (fun w hS => R_load1 g23 rfl (hS.cell 2 rfl rfl)) ?_
      refine HL.all [5, 7] (by kernel_rfl) rfl ⟨?_, ?_, trivial⟩
      · refine HO.of #[true, true, true, true, true, true, false, false, false] rfl rfl ?_
        have hS := hS.nilRow (RI .i64) 2
        refine WL.append (R := (RI .i64)) (zs := p12.base) 0 u23 z2 rfl rfl rfl hS rfl rfl rfl rfl (Sl.src (hS.sl 3 rfl).2) hg32609 rfl rfl ?_
        intro A32610 c32611 w hS
        refine WL.nil ?_
        refine HL.next (hS.pick [1, 2, 3] [0, 1, 2, 3, 4] rfl) ?_
        refine HL.val 6 #[true, true, true, true, true, true, true, false, false] rfl (by kernel_rfl) (by kernel_rfl) (by kernel_rfl) rfl rfl (hS.pick [1, 2, 3] [0, 1, 2, 3, 4] rfl) (fun w hS => R_build (cells := #[.slice A32589 r32586.cuts.length c32590, .slice A32592 r32586.cats.length c32593, .int .i64 p12.outputs, .slice A32610 ((([] : List Int) ++ p12.base).length) c32611, .slice none 0 0]) rfl (by kernel_rfl)) ?_
        refine HL.all [7] (by kernel_rfl) rfl ⟨?_, trivial⟩
        refine HO.of #[true, true, true, true, true, true, true, true, false] rfl rfl ?_
        refine WL.alloc _ z147 rfl hS rfl ?_
        intro b32612 w hS
        refine WL.nil ?_
        refine HL.next (hS.pick [2, 3, 4] [0, 1, 2, 3, 4] rfl) ?_
        refine HL.all [8] (by kernel_rfl) rfl ⟨?_, trivial⟩
        refine HO.of #[true, true, true, true, true, true, true, true, true] rfl rfl ?_
        refine WL.storeB 0 [.slice A32589 r32586.cuts.length c32590, .slice A32592 r32586.cats.length c32593, .int .i64 p12.outputs, .slice A32610 ((([] : List Int) ++ p12.base).length) c32611, .slice none 0 0] g147 hS rfl rfl rfl rfl rfl rfl rfl [.slice A32589 r32586.cuts.length c32590, .slice A32592 r32586.cats.length c32593, .int .i64 p12.outputs, .slice A32610 ((([] : List Int) ++ p12.base).length) c32611, .slice none 0 0] rfl ?_
        intro w hS
        refine WL.nil ?_
        refine HL.next (hS.pick [2, 3, 4] [0, 1, 2, 3, 4] rfl) ?_
        refine HL.done (by kernel_rfl) (HL.keepQ ?_)
        have hS := hS.pick [4, 3, 2, 0, 1] [4, 3, 2, 1, 0] rfl
        exact WQ.toJ ⟨(([] : List Int) ++ p12.base), b32612, A32610, (([] : List Int) ++ p12.base).length, c32611, Option.some.inj h, rfl, hS⟩ ⟨rfl, rfl, rfl, rfl, trivial⟩
      · refine HO.of #[true, true, true, true, true, false, false, true, false] rfl rfl ?_
        refine WL.alloc _ z147 rfl hS rfl ?_
        intro b32612 w hS
        refine WL.nil ?_
        refine HL.next (hS.pick [1, 2, 3] [0, 1, 2, 3, 4] rfl) ?_
        refine HL.all [5] (by kernel_rfl) rfl ⟨?_, trivial⟩
        refine HO.of #[true, true, true, true, true, true, false, true, false] rfl rfl ?_
        have hS := hS.nilRow (RI .i64) 2
        refine WL.append (R := (RI .i64)) (zs := p12.base) 0 u23 z2 rfl rfl rfl hS rfl rfl rfl rfl (Sl.src (hS.sl 3 rfl).2) hg32609 rfl rfl ?_
        intro A32610 c32611 w hS
        refine WL.nil ?_
        refine HL.next (hS.pick [2, 3, 4] [0, 1, 2, 3, 4] rfl) ?_
        refine HL.val 6 #[true, true, true, true, true, true, true, true, false] rfl (by kernel_rfl) (by kernel_rfl) (by kernel_rfl) rfl rfl (hS.pick [2, 3, 4] [0, 1, 2, 3, 4] rfl) (fun w hS => R_build (cells := #[.slice A32589 r32586.cuts.length c32590, .slice A32592 r32586.cats.length c32593, .int .i64 p12.outputs, .slice A32610 ((([] : List Int) ++ p12.base).length) c32611, .slice none 0 0]) rfl (by kernel_rfl)) ?_
        refine HL.all [8] (by kernel_rfl) rfl ⟨?_, trivial⟩
        refine HO.of #[true, true, true, true, true, true, true, true, true] rfl rfl ?_
        refine WL.storeB 1 [.slice A32589 r32586.cuts.length c32590, .slice A32592 r32586.cats.length c32593, .int .i64 p12.outputs, .slice A32610 ((([] : List Int) ++ p12.base).length) c32611, .slice none 0 0] g147 hS rfl rfl rfl rfl rfl rfl rfl [.slice A32589 r32586.cuts.length c32590, .slice A32592 r32586.cats.length c32593, .int .i64 p12.outputs, .slice A32610 ((([] : List Int) ++ p12.base).length) c32611, .slice none 0 0] rfl ?_
        intro w hS
        refine WL.nil ?_
        refine HL.next (hS.pick [2, 3, 4] [0, 1, 2, 3, 4] rfl) ?_
        refine HL.done (by kernel_rfl) (HL.keepQ ?_)
        have hS := hS.pick [4, 3, 2, 1, 0] [4, 3, 2, 1, 0] rfl
        exact WQ.toJ ⟨(([] : List Int) ++ p12.base), b32612, A32610, (([] : List Int) ++ p12.base).length, c32611, Option.some.inj h, rfl, hS⟩ ⟨rfl, rfl, rfl, rfl, trivial⟩
    · rintro _ w ⟨y32605, b32601, A32602, n32603, c32604, rfl, rfl, hS⟩
      have h := h32608
      try dsimp only at h
      obtain rfl := Row.len (hS.res 4 rfl)
      obtain ⟨o42566, h42567, h42568⟩ := bindS h
      refine WC.seqM (fun env w => ∃ (y42565 : List BinTree), ∃ (A42562 : Option Addr), ∃ (n42563 : Nat), ∃ (c42564 : Nat), y42565 = o42566 ∧ env = [(2, .pointer (some ⟨b32585, 0, none⟩)), (6, .pointer (some ⟨b32601, 0, none⟩))] ∧ Sta w0 M [Blk b32585 [.slice none 0 0, .slice none 0 0, .int .i64 (0 : Int), .slice none 0 0, .slice none 0 0] 147, Blk b32601 [.slice A32589 r32586.cuts.length c32590, .slice A32592 r32586.cats.length c32593, .int .i64 p12.outputs, .slice A32602 y32605.length c32604, .slice A42562 n42563 c42564] 147, Row (RI .i64) 2 (.slice A32602 y32605.length c32604) y32605, Row RBinTree 212 (.slice A42562 n42563 c42564) y42565] [FSl (RSl RF) A32589 c32590 r32586.cuts, FSl (RSl (RI .i64)) A32592 c32593 r32586.cats] w) ?_ ?_
      · have h := h42567
        refine WC.seq ?_
        refine WC.reg ?_
        refine WL.val (R_fieldB o26_4 rfl) rfl rfl ?_
        refine WL.val (R_load1 g24 rfl (hS.cell 0 rfl rfl)) rfl rfl ?_
        refine WL.val (R_lenS u24 rfl) rfl rfl ?_
        refine WL.val (R_move rfl) rfl rfl ?_
        refine WL.nil ?_
        refine WQ.thenC ?_
        refine WC.block ?_
        have hS := hS.nilRow RBinTree 212
        have hS := hS.pick [2, 3, 4, 5, 0] [2, 3, 4] rfl
        refine WC.loopJ (fun m env w => ∃ (y47544 : List BinTree), ∃ (y47545 : Int), ∃ (A47541 : Option Addr), ∃ (n47542 : Nat), ∃ (c47543 : Nat), env = [(2, .pointer (some ⟨b32585, 0, none⟩)), (4, .pointer (some ⟨b32595, 0, none⟩)), (6, .pointer (some ⟨b32601, 0, none⟩)), (32, .slice A19 p12.trees.length c20), (33, .int .i64 (p12.trees.length : Int)), (34, .int .i64 y47545)] ∧ Sta w0 M [Blk b32585 [.slice none 0 0, .slice none 0 0, .int .i64 (0 : Int), .slice none 0 0, .slice none 0 0] 147, Blk b32595 [.slice A32589 r32586.cuts.length c32590, .slice A32592 r32586.cats.length c32593] 70, Blk b32601 [.slice A32589 r32586.cuts.length c32590, .slice A32592 r32586.cats.length c32593, .int .i64 p12.outputs, .slice A32602 y32605.length c32604, .slice A47541 n47542 c47543] 147, Row (RI .i64) 2 (.slice A32602 y32605.length c32604) y32605, Row RBinTree 212 (.slice A47541 n47542 c47543) y47544] [FSl RTree A19 c20 p12.trees, FSl (RSl RF) A32589 c32590 r32586.cuts, FSl (RSl (RI .i64)) A32592 c32593 r32586.cats] w ∧ bins_Compile_l0 k p12 r32586 m y47544 y47545 = some o42566) k ⟨([] : List BinTree), (0 : Int), none, 0, 0, rfl, hS, h⟩ ⟨rfl, rfl, rfl, rfl, rfl, rfl, trivial⟩ (fun env w hI => ?_) (fun m env w hI => ?_)
        · obtain ⟨y47544, y47545, A47541, n47542, c47543, rfl, hS, h⟩ := hI
          rw [bins_Compile_l0] at h
          cases h
        · obtain ⟨y47544, y47545, A47541, n47542, c47543, rfl, hS, h⟩ := hI
          rw [bins_Compile_l0] at h
          obtain rfl := Row.len (hS.res 4 rfl)
          refine WC.seq ?_
          refine WC.reg ?_
          refine WL.val (R_cmp rfl rfl rfl) rfl rfl ?_
          refine WL.nil ?_
          refine WQ.thenC ?_
          refine WC.seq ?_
          refine WC.cond rfl (fun hb52518 => ?_) (fun hb52518 => ?_)
          · have h := ifT hb52518 h
            refine WC.skip ?_
            refine WQ.thenC ?_
            obtain ⟨o55005, h55006, h55007⟩ := bindS h
            refine WC.seqM (fun env w => ∃ (y55004 : List BinTree), ∃ (A55001 : Option Addr), ∃ (n55002 : Nat), ∃ (c55003 : Nat), y55004 = o55005 ∧ env = [(2, .pointer (some ⟨b32585, 0, none⟩)), (4, .pointer (some ⟨b32595, 0, none⟩)), (6, .pointer (some ⟨b32601, 0, none⟩)), (32, .slice A19 p12.trees.length c20), (33, .int .i64 (p12.trees.length : Int)), (34, .int .i64 y47545)] ∧ Sta w0 M [Blk b32585 [.slice none 0 0, .slice none 0 0, .int .i64 (0 : Int), .slice none 0 0, .slice none 0 0] 147, Blk b32595 [.slice A32589 r32586.cuts.length c32590, .slice A32592 r32586.cats.length c32593] 70, Blk b32601 [.slice A32589 r32586.cuts.length c32590, .slice A32592 r32586.cats.length c32593, .int .i64 p12.outputs, .slice A32602 y32605.length c32604, .slice A55001 n55002 c55003] 147, Row (RI .i64) 2 (.slice A32602 y32605.length c32604) y32605, Row RBinTree 212 (.slice A55001 n55002 c55003) y55004] [FSl RTree A19 c20 p12.trees, FSl (RSl RF) A32589 c32590 r32586.cuts, FSl (RSl (RI .i64)) A32592 c32593 r32586.cats] w) ?_ ?_
            · have h := h55006
              refine WC.block ?_
              refine WC.seq ?_
              refine WC.reg ?_
              obtain ⟨x55008, hx55009, h⟩ := bindS h
              obtain ⟨ad55010, cs55011, hA55012, hq55013, hK55014, hc55015⟩ := hS.sget 0 rfl (rdS hx55009).2.2
              obtain ⟨A55016, c55017, rfl, hs55018⟩ := hK55014
              have hS := hS.addF (FSl RNode A55016 c55017 x55008.nodes) hs55018
              refine WL.val (R_indexAddr u24 z52 rfl rfl hA55012 (rdS hx55009).1 hq55013) rfl rfl ?_
              refine WL.val (R_loadA g52 rfl rfl hc55015) rfl rfl ?_
              refine WL.alloc _ z52 rfl hS rfl ?_
              intro b55019 w hS
              refine WL.storeB 0 [.int .i64 x55008.output, .slice A55016 x55008.nodes.length c55017] g52 hS rfl rfl rfl rfl rfl rfl rfl [.int .i64 x55008.output, .slice A55016 x55008.nodes.length c55017] rfl ?_
              intro w hS
              refine WL.nil ?_
              refine WQ.thenC ?_
              refine WC.seq ?_
              refine WC.reg ?_
              refine WL.val (R_fieldB o52_0 rfl) rfl rfl ?_
              refine WL.val (R_load1 g3 rfl (hS.cell 0 rfl rfl)) rfl rfl ?_
              refine WL.val (R_build (cells := #[.int .i64 x55008.output, .slice none 0 0]) rfl (by kernel_rfl)) rfl rfl ?_
              refine WL.alloc _ z212 rfl hS rfl ?_
              intro b55020 w hS
              refine WL.storeB 0 [.int .i64 x55008.output, .slice none 0 0] g212 hS rfl rfl rfl rfl rfl rfl rfl [.int .i64 x55008.output, .slice none 0 0] rfl ?_
              intro w hS
              refine WL.nil ?_
              refine WQ.thenC ?_
              obtain ⟨o56254, h56255, h56256⟩ := bindS h
              refine WC.seqM (fun env w => ∃ (y56253 : List BinNode), ∃ (A56250 : Option Addr), ∃ (n56251 : Nat), ∃ (c56252 : Nat), y56253 = o56254 ∧ env = [(2, .pointer (some ⟨b32585, 0, none⟩)), (4, .pointer (some ⟨b32595, 0, none⟩)), (6, .pointer (some ⟨b32601, 0, none⟩)), (9, .pointer (some ⟨b55020, 0, none⟩)), (32, .slice A19 p12.trees.length c20), (33, .int .i64 (p12.trees.length : Int)), (34, .int .i64 y47545)] ∧ Sta w0 M [Blk b32585 [.slice none 0 0, .slice none 0 0, .int .i64 (0 : Int), .slice none 0 0, .slice none 0 0] 147, Blk b32595 [.slice A32589 r32586.cuts.length c32590, .slice A32592 r32586.cats.length c32593] 70, Blk b32601 [.slice A32589 r32586.cuts.length c32590, .slice A32592 r32586.cats.length c32593, .int .i64 p12.outputs, .slice A32602 y32605.length c32604, .slice A47541 y47544.length c47543] 147, Row (RI .i64) 2 (.slice A32602 y32605.length c32604) y32605, Row RBinTree 212 (.slice A47541 y47544.length c47543) y47544, Blk b55020 [.int .i64 x55008.output, .slice A56250 n56251 c56252] 212, Row RBinNode 214 (.slice A56250 n56251 c56252) y56253] [FSl RTree A19 c20 p12.trees, FSl (RSl RF) A32589 c32590 r32586.cuts, FSl (RSl (RI .i64)) A32592 c32593 r32586.cats] w) ?_ ?_
              · have h := h56255
                refine WC.seq ?_
                refine WC.reg ?_
                refine WL.val (R_fieldB o52_1 rfl) rfl rfl ?_
                refine WL.val (R_load1 g50 rfl (hS.cell 1 rfl rfl)) rfl rfl ?_
                refine WL.val (R_lenS u50 rfl) rfl rfl ?_
                refine WL.val (R_move rfl) rfl rfl ?_
                refine WL.nil ?_
                refine WQ.thenC ?_
                refine WC.block ?_
                have hS := hS.nilRow RBinNode 214
                have hS := hS.pick [3, 4, 5, 6, 7, 1, 0] [1, 0, 2, 3] rfl
                refine WC.loopJ (fun m env w => ∃ (y56872 : List BinNode), ∃ (y56873 : Int), ∃ (A56869 : Option Addr), ∃ (n56870 : Nat), ∃ (c56871 : Nat), env = [(2, .pointer (some ⟨b32585, 0, none⟩)), (4, .pointer (some ⟨b32595, 0, none⟩)), (6, .pointer (some ⟨b32601, 0, none⟩)), (9, .pointer (some ⟨b55020, 0, none⟩)), (32, .slice A19 p12.trees.length c20), (33, .int .i64 (p12.trees.length : Int)), (34, .int .i64 y47545), (42, .slice A55016 x55008.nodes.length c55017), (43, .int .i64 (x55008.nodes.length : Int)), (44, .int .i64 y56873)] ∧ Sta w0 M [Blk b32585 [.slice none 0 0, .slice none 0 0, .int .i64 (0 : Int), .slice none 0 0, .slice none 0 0] 147, Blk b32595 [.slice A32589 r32586.cuts.length c32590, .slice A32592 r32586.cats.length c32593] 70, Blk b32601 [.slice A32589 r32586.cuts.length c32590, .slice A32592 r32586.cats.length c32593, .int .i64 p12.outputs, .slice A32602 y32605.length c32604, .slice A47541 y47544.length c47543] 147, Row (RI .i64) 2 (.slice A32602 y32605.length c32604) y32605, Row RBinTree 212 (.slice A47541 y47544.length c47543) y47544, Blk b55020 [.int .i64 x55008.output, .slice A56869 n56870 c56871] 212, Row RBinNode 214 (.slice A56869 n56870 c56871) y56872] [FSl RTree A19 c20 p12.trees, FSl RNode A55016 c55017 x55008.nodes, FSl (RSl RF) A32589 c32590 r32586.cuts, FSl (RSl (RI .i64)) A32592 c32593 r32586.cats] w ∧ bins_Compile_l1 k x55008 r32586 m y56872 y56873 = some o56254) k ⟨([] : List BinNode), (0 : Int), none, 0, 0, rfl, hS, h⟩ ⟨rfl, rfl, rfl, rfl, rfl, rfl, rfl, rfl, rfl, rfl, trivial⟩ (fun env w hI => ?_) (fun m env w hI => ?_)
                · obtain ⟨y56872, y56873, A56869, n56870, c56871, rfl, hS, h⟩ := hI
                  rw [bins_Compile_l1] at h
                  cases h
                · obtain ⟨y56872, y56873, A56869, n56870, c56871, rfl, hS, h⟩ := hI
                  rw [bins_Compile_l1] at h
                  obtain rfl := Row.len (hS.res 6 rfl)
                  refine WC.seq ?_
                  refine WC.reg ?_
                  refine WL.val (R_cmp rfl rfl rfl) rfl rfl ?_
                  refine WL.nil ?_
                  refine WQ.thenC ?_
                  refine WC.seq ?_
                  refine WC.cond rfl (fun hb57486 => ?_) (fun hb57486 => ?_)
                  · have h := ifT hb57486 h
                    refine WC.skip ?_
                    refine WQ.thenC ?_
                    obtain ⟨o57793, h57794, h57795⟩ := bindS h
                    refine WC.seqM (fun env w => ∃ (y57792 : List BinNode), ∃ (A57789 : Option Addr), ∃ (n57790 : Nat), ∃ (c57791 : Nat), y57792 = o57793 ∧ env = [(2, .pointer (some ⟨b32585, 0, none⟩)), (4, .pointer (some ⟨b32595, 0, none⟩)), (6, .pointer (some ⟨b32601, 0, none⟩)), (9, .pointer (some ⟨b55020, 0, none⟩)), (32, .slice A19 p12.trees.length c20), (33, .int .i64 (p12.trees.length : Int)), (34, .int .i64 y47545), (42, .slice A55016 x55008.nodes.length c55017), (43, .int .i64 (x55008.nodes.length : Int)), (44, .int .i64 y56873)] ∧ Sta w0 M [Blk b32585 [.slice none 0 0, .slice none 0 0, .int .i64 (0 : Int), .slice none 0 0, .slice none 0 0] 147, Blk b32595 [.slice A32589 r32586.cuts.length c32590, .slice A32592 r32586.cats.length c32593] 70, Blk b32601 [.slice A32589 r32586.cuts.length c32590, .slice A32592 r32586.cats.length c32593, .int .i64 p12.outputs, .slice A32602 y32605.length c32604, .slice A47541 y47544.length c47543] 147, Row (RI .i64) 2 (.slice A32602 y32605.length c32604) y32605, Row RBinTree 212 (.slice A47541 y47544.length c47543) y47544, Blk b55020 [.int .i64 x55008.output, .slice A57789 n57790 c57791] 212, Row RBinNode 214 (.slice A57789 n57790 c57791) y57792] [FSl RTree A19 c20 p12.trees, FSl RNode A55016 c55017 x55008.nodes, FSl (RSl RF) A32589 c32590 r32586.cuts, FSl (RSl (RI .i64)) A32592 c32593 r32586.cats] w) ?_ ?_
                    · have h := h57794
                      refine WC.block ?_
                      refine WC.seq ?_
                      refine WC.reg ?_
                      obtain ⟨x57796, hx57797, h⟩ := bindS h
                      obtain ⟨ad57798, cs57799, hA57800, hq57801, hK57802, hc57803⟩ := hS.sget 1 rfl (rdS hx57797).2.2
                      obtain ⟨A57804, c57805, rfl, hs57806⟩ := hK57802
                      have hS := hS.addF (FSl (RI .i64) A57804 c57805 x57796.cats) hs57806
                      refine WL.val (R_indexAddr u50 z58 rfl rfl hA57800 (rdS hx57797).1 hq57801) rfl rfl ?_
                      refine WL.val (R_loadA g58 rfl rfl hc57803) rfl rfl ?_
                      refine WL.alloc _ z58 rfl hS rfl ?_
                      intro b57807 w hS
                      refine WL.storeB 0 [.int .u8 x57796.kind, .int .i64 x57796.value, .int .i64 x57796.feature, .float .f64 x57796.threshold, .slice A57804 x57796.cats.length c57805, .int .u8 x57796.missing, .int .i64 x57796.left, .int .i64 x57796.right] g58 hS rfl rfl rfl rfl rfl rfl rfl [.int .u8 x57796.kind, .int .i64 x57796.value, .int .i64 x57796.feature, .float .f64 x57796.threshold, .slice A57804 x57796.cats.length c57805, .int .u8 x57796.missing, .int .i64 x57796.left, .int .i64 x57796.right] rfl ?_
                      intro w hS
                      refine WL.nil ?_
                      refine WQ.thenC ?_
                      refine WC.seq ?_
                      refine WC.reg ?_
                      refine WL.val (R_fieldB o58_0 rfl) rfl rfl ?_
                      refine WL.val (R_load1 g53 rfl (hS.cell 0 rfl rfl)) rfl rfl ?_
                      refine WL.val (R_fieldB o58_1 rfl) rfl rfl ?_
                      refine WL.val (R_load1 g2 rfl (hS.cell 0 rfl rfl)) rfl rfl ?_
                      refine WL.val (R_fieldB o58_2 rfl) rfl rfl ?_
                      refine WL.val (R_load1 g3 rfl (hS.cell 0 rfl rfl)) rfl rfl ?_
                      refine WL.val (R_fieldB o58_5 rfl) rfl rfl ?_
                      refine WL.val (R_load1 g56 rfl (hS.cell 0 rfl rfl)) rfl rfl ?_
                      refine WL.val (R_fieldB o58_6 rfl) rfl rfl ?_
                      refine WL.val (R_load1 g3 rfl (hS.cell 0 rfl rfl)) rfl rfl ?_
                      refine WL.val (R_fieldB o58_7 rfl) rfl rfl ?_
                      refine WL.val (R_load1 g3 rfl (hS.cell 0 rfl rfl)) rfl rfl ?_
                      refine WL.val (R_build (cells := #[.int .u8 x57796.kind, .int .i64 x57796.value, .int .i64 x57796.feature, .int .i64 (0 : Int), .slice none 0 0, .int .u8 x57796.missing, .int .i64 x57796.left, .int .i64 x57796.right]) rfl (by kernel_rfl)) rfl rfl ?_
                      refine WL.alloc _ z214 rfl hS rfl ?_
                      intro b57808 w hS
                      refine WL.storeB 0 [.int .u8 x57796.kind, .int .i64 x57796.value, .int .i64 x57796.feature, .int .i64 (0 : Int), .slice none 0 0, .int .u8 x57796.missing, .int .i64 x57796.left, .int .i64 x57796.right] g214 hS rfl rfl rfl rfl rfl rfl rfl [.int .u8 x57796.kind, .int .i64 x57796.value, .int .i64 x57796.feature, .int .i64 (0 : Int), .slice none 0 0, .int .u8 x57796.missing, .int .i64 x57796.left, .int .i64 x57796.right] rfl ?_
                      intro w hS
                      refine WL.nil ?_
                      refine WQ.thenC ?_
                      obtain ⟨o57826, h57827, h57828⟩ := bindS h
                      refine WC.seqM (fun env w => ∃ (y57825 : Int), y57825 = o57826 ∧ env = [(2, .pointer (some ⟨b32585, 0, none⟩)), (4, .pointer (some ⟨b32595, 0, none⟩)), (6, .pointer (some ⟨b32601, 0, none⟩)), (9, .pointer (some ⟨b55020, 0, none⟩)), (11, .pointer (some ⟨b57807, 0, none⟩)), (12, .pointer (some ⟨b57808, 0, none⟩)), (32, .slice A19 p12.trees.length c20), (33, .int .i64 (p12.trees.length : Int)), (34, .int .i64 y47545), (42, .slice A55016 x55008.nodes.length c55017), (43, .int .i64 (x55008.nodes.length : Int)), (44, .int .i64 y56873)] ∧ Sta w0 M [Blk b32585 [.slice none 0 0, .slice none 0 0, .int .i64 (0 : Int), .slice none 0 0, .slice none 0 0] 147, Blk b32595 [.slice A32589 r32586.cuts.length c32590, .slice A32592 r32586.cats.length c32593] 70, Blk b32601 [.slice A32589 r32586.cuts.length c32590, .slice A32592 r32586.cats.length c32593, .int .i64 p12.outputs, .slice A32602 y32605.length c32604, .slice A47541 y47544.length c47543] 147, Row (RI .i64) 2 (.slice A32602 y32605.length c32604) y32605, Row RBinTree 212 (.slice A47541 y47544.length c47543) y47544, Blk b55020 [.int .i64 x55008.output, .slice A56869 y56872.length c56871] 212, Row RBinNode 214 (.slice A56869 y56872.length c56871) y56872, Blk b57807 [.int .u8 x57796.kind, .int .i64 x57796.value, .int .i64 x57796.feature, .float .f64 x57796.threshold, .slice A57804 x57796.cats.length c57805, .int .u8 x57796.missing, .int .i64 x57796.left, .int .i64 x57796.right] 58, Blk b57808 [.int .u8 x57796.kind, .int .i64 x57796.value, .int .i64 x57796.feature, .int .i64 y57825, .slice none 0 0, .int .u8 x57796.missing, .int .i64 x57796.left, .int .i64 x57796.right] 214] [FSl RTree A19 c20 p12.trees, FSl RNode A55016 c55017 x55008.nodes, FSl (RSl RF) A32589 c32590 r32586.cuts, FSl (RSl (RI .i64)) A32592 c32593 r32586.cats, FSl (RI .i64) A57804 c57805 x57796.cats] w) ?_ ?_
                      · have h := h57827
                        refine WC.seq ?_
                        refine WC.reg ?_
                        refine WL.val (R_fieldB o58_0 rfl) rfl rfl ?_
                        refine WL.val (R_load1 g53 rfl (hS.cell 1 rfl rfl)) rfl rfl ?_
                        refine WL.val (R_cmp rfl rfl rfl) rfl rfl ?_
                        refine WL.nil ?_
                        refine WQ.thenC ?_
                        refine WC.cond rfl (fun hb57829 => ?_) (fun hb57829 => ?_)
                        · have h := ifT hb57829 h
                          obtain ⟨x57830, hx57831, h⟩ := bindS h
                          obtain ⟨r57841, hr57842, h⟩ := bindS h
                          obtain ⟨r57843, hr57844, h⟩ := bindS h
                          obtain ⟨ad57832, cs57833, hA57834, hq57835, hK57836, hS⟩ := hS.hoist 3 rfl (rdS hx57831).2.2
                          obtain ⟨A57838, c57839, rfl, hs57840⟩ := hK57836
                          have hS := hS.addF (FSl RF A57838 c57839 x57830) hs57840
                          refine WC.held (Sta w0 M [Blk b57807 [.int .u8 x57796.kind, .int .i64 x57796.value, .int .i64 x57796.feature, .float .f64 x57796.threshold, .slice A57804 x57796.cats.length c57805, .int .u8 x57796.missing, .int .i64 x57796.left, .int .i64 x57796.right] 58, Blk b32585 [.slice none 0 0, .slice none 0 0, .int .i64 (0 : Int), .slice none 0 0, .slice none 0 0] 147, Blk b32595 [.slice A32589 r32586.cuts.length c32590, .slice A32592 r32586.cats.length c32593] 70, Blk b32601 [.slice A32589 r32586.cuts.length c32590, .slice A32592 r32586.cats.length c32593, .int .i64 p12.outputs, .slice A32602 y32605.length c32604, .slice A47541 y47544.length c47543] 147, Row (RI .i64) 2 (.slice A32602 y32605.length c32604) y32605, Row RBinTree 212 (.slice A47541 y47544.length c47543) y47544, Blk b55020 [.int .i64 x55008.output, .slice A56869 y56872.length c56871] 212, Row RBinNode 214 (.slice A56869 y56872.length c56871) y56872] [FSl RF A57838 c57839 x57830, FCs (ad57832.add (x57796.feature.toNat * 1)) [.slice A57838 x57830.length c57839], FSl (RI .i64) A57804 c57805 x57796.cats, FSl RTree A19 c20 p12.trees, FSl RNode A55016 c55017 x55008.nodes, FSl (RSl RF) A32589 c32590 r32586.cuts, FSl (RSl (RI .i64)) A32592 c32593 r32586.cats]) fol hS rfl ?_
                          intro w hS
                          refine HL.val 0 #[true, false, false, false, false, false, false, false, false, false, false, false] rfl (by kernel_rfl) (by kernel_rfl) (by kernel_rfl) rfl rfl (hS.pick [1, 2, 3, 4, 5, 6, 7, 8] [0, 1, 2, 3, 4, 5, 6] rfl) (fun w hS => R_fieldB o70_0 rfl) ?_
                          refine HL.val 1 #[true, true, false, false, false, false, false, false, false, false, false, false] rfl (by kernel_rfl) (by kernel_rfl) (by kernel_rfl) rfl rfl (hS.pick [1, 2, 3, 4, 5, 6, 7, 8] [0, 1, 2, 3, 4, 5, 6] rfl) (fun w hS => R_load1 g62 rfl (hS.cell 2 rfl rfl)) ?_
                          refine HL.val 2 #[true, true, true, false, false, false, false, false, false, false, false, false] rfl (by kernel_rfl) (by kernel_rfl) (by kernel_rfl) rfl rfl (hS.pick [1, 2, 3, 4, 5, 6, 7, 8] [0, 1, 2, 3, 4, 5, 6] rfl) (fun w hS => R_fieldB o58_2 rfl) ?_
                          refine HL.val 3 #[true, true, true, true, false, false, false, false, false, false, false, false] rfl (by kernel_rfl) (by kernel_rfl) (by kernel_rfl) rfl rfl (hS.pick [1, 2, 3, 4, 5, 6, 7, 8] [0, 1, 2, 3, 4, 5, 6] rfl) (fun w hS => R_load1 g3 rfl (hS.cell 0 rfl rfl)) ?_
                          refine HL.val 4 #[true, true, true, true, true, false, false, false, false, false, false, false] rfl (by kernel_rfl) (by kernel_rfl) (by kernel_rfl) rfl rfl (hS.pick [1, 2, 3, 4, 5, 6, 7, 8] [0, 1, 2, 3, 4, 5, 6] rfl) (fun w hS => R_indexAddr u62 z65 rfl rfl hA57834 (rdS hx57831).1 hq57835) ?_
                          refine HL.val 5 #[true, true, true, true, true, true, false, false, false, false, false, false] rfl (by kernel_rfl) (by kernel_rfl) (by kernel_rfl) rfl rfl (hS.pick [1, 2, 3, 4, 5, 6, 7, 8] [0, 1, 2, 3, 4, 5, 6] rfl) (fun w hS => R_load1 g65 rfl (hS.fc 1 rfl 0 rfl)) ?_
                          refine HL.val 6 #[true, true, true, true, true, true, true, false, false, false, false, false] rfl (by kernel_rfl) (by kernel_rfl) (by kernel_rfl) rfl rfl (hS.pick [1, 2, 3, 4, 5, 6, 7, 8] [0, 1, 2, 3, 4, 5, 6] rfl) (fun w hS => R_fieldB o58_3 rfl) ?_
                          refine HL.val 7 #[true, true, true, true, true, true, true, true, false, false, false, false] rfl (by kernel_rfl) (by kernel_rfl) (by kernel_rfl) rfl rfl (hS.pick [1, 2, 3, 4, 5, 6, 7, 8] [0, 1, 2, 3, 4, 5, 6] rfl) (fun w hS => R_load1 g54 rfl (hS.cell 0 rfl rfl)) ?_
                          refine HL.all [8] (by kernel_rfl) rfl ⟨?_, trivial⟩
                          refine HO.of #[true, true, true, true, true, true, true, true, true, false, false, false] rfl rfl ?_
                          refine WL.call e133 rfl rfl hS (order_Key_ok (hS).mx_lt x57796.threshold  _ hr57842) rfl ?_
                          intro v w hB hS hP
                          obtain ⟨rfl⟩ := hP
                          refine WL.nil ?_
                          refine HL.next (hS.pick [1, 2, 3, 4, 5, 6, 7, 8] [0, 1, 2, 3, 4, 5, 6] rfl) ?_
                          refine HL.all [9] (by kernel_rfl) rfl ⟨?_, trivial⟩
                          refine HO.of #[true, true, true, true, true, true, true, true, true, true, false, false] rfl rfl ?_
                          refine WL.call e132 rfl rfl hS (bins_below_float64_uint64__order_Key_ok (hS).mx_lt k x57830 r57841 (hS.sl 0 rfl) _ hr57844) rfl ?_
                          intro v w hB hS hP
                          obtain ⟨rfl⟩ := hP
                          refine WL.nil ?_
                          refine HL.next (hS.pick [1, 2, 3, 4, 5, 6, 7, 8] [0, 1, 2, 3, 4, 5, 6] rfl) ?_
                          refine HL.val 10 #[true, true, true, true, true, true, true, true, true, true, true, false] rfl (by kernel_rfl) (by kernel_rfl) (by kernel_rfl) rfl rfl (hS.pick [1, 2, 3, 4, 5, 6, 7, 8] [0, 1, 2, 3, 4, 5, 6] rfl) (fun w hS => R_fieldB o214_3 rfl) ?_
                          refine HL.all [11] (by kernel_rfl) rfl ⟨?_, trivial⟩
                          refine HO.of #[true, true, true, true, true, true, true, true, true, true, true, true] rfl rfl ?_
                          refine WL.storeB 0 [.int .i64 r57843] g3 hS rfl rfl rfl rfl rfl rfl rfl [.int .u8 x57796.kind, .int .i64 x57796.value, .int .i64 x57796.feature, .int .i64 r57843, .slice none 0 0, .int .u8 x57796.missing, .int .i64 x57796.left, .int .i64 x57796.right] rfl ?_
                          intro w hS
                          refine WL.nil ?_
                          refine HL.next (hS.pick [1, 2, 3, 4, 5, 6, 7, 8] [0, 1, 2, 3, 4, 5, 6] rfl) ?_
                          refine HL.done (by kernel_rfl) (HL.keepQ ?_)
                          have hS := hS.pick [2, 3, 4, 5, 6, 7, 8, 1, 0] [3, 4, 5, 6, 2] rfl
                          exact WQ.toJ ⟨r57843, Option.some.inj h, rfl, hS⟩ ⟨rfl, rfl, rfl, rfl, rfl, rfl, rfl, rfl, rfl, rfl, rfl, rfl, trivial⟩
                        · have h := ifF hb57829 h
                          refine WC.skip ?_
                          have hS := hS.pick [2, 3, 4, 5, 6, 7, 8, 1, 0] [1, 2, 3, 4, 0] rfl
                          exact WQ.toJ ⟨(0 : Int), Option.some.inj h, rfl, hS⟩ ⟨rfl, rfl, rfl, rfl, rfl, rfl, rfl, rfl, rfl, rfl, rfl, rfl, trivial⟩
                      · rintro _ w ⟨y57825, rfl, rfl, hS⟩
                        have h := h57828
                        try dsimp only at h
                        obtain ⟨o57970, h57971, h57972⟩ := bindS h
                        refine WC.seqM (fun env w => ∃ (y57969 : List Int), ∃ (A57966 : Option Addr), ∃ (n57967 : Nat), ∃ (c57968 : Nat), y57969 = o57970 ∧ env = [(2, .pointer (some ⟨b32585, 0, none⟩)), (4, .pointer (some ⟨b32595, 0, none⟩)), (6, .pointer (some ⟨b32601, 0, none⟩)), (9, .pointer (some ⟨b55020, 0, none⟩)), (12, .pointer (some ⟨b57808, 0, none⟩)), (32, .slice A19 p12.trees.length c20), (33, .int .i64 (p12.trees.length : Int)), (34, .int .i64 y47545), (42, .slice A55016 x55008.nodes.length c55017), (43, .int .i64 (x55008.nodes.length : Int)), (44, .int .i64 y56873)] ∧ Sta w0 M [Blk b32585 [.slice none 0 0, .slice none 0 0, .int .i64 (0 : Int), .slice none 0 0, .slice none 0 0] 147, Blk b32595 [.slice A32589 r32586.cuts.length c32590, .slice A32592 r32586.cats.length c32593] 70, Blk b32601 [.slice A32589 r32586.cuts.length c32590, .slice A32592 r32586.cats.length c32593, .int .i64 p12.outputs, .slice A32602 y32605.length c32604, .slice A47541 y47544.length c47543] 147, Row (RI .i64) 2 (.slice A32602 y32605.length c32604) y32605, Row RBinTree 212 (.slice A47541 y47544.length c47543) y47544, Blk b55020 [.int .i64 x55008.output, .slice A56869 y56872.length c56871] 212, Row RBinNode 214 (.slice A56869 y56872.length c56871) y56872, Blk b57808 [.int .u8 x57796.kind, .int .i64 x57796.value, .int .i64 x57796.feature, .int .i64 y57825, .slice A57966 n57967 c57968, .int .u8 x57796.missing, .int .i64 x57796.left, .int .i64 x57796.right] 214, Row (RI .i64) 3 (.slice A57966 n57967 c57968) y57969] [FSl RTree A19 c20 p12.trees, FSl RNode A55016 c55017 x55008.nodes, FSl (RSl RF) A32589 c32590 r32586.cuts, FSl (RSl (RI .i64)) A32592 c32593 r32586.cats] w) ?_ ?_
                        · have h := h57971
                          refine WC.seq ?_
                          refine WC.reg ?_
                          refine WL.val (R_fieldB o58_4 rfl) rfl rfl ?_
                          refine WL.val (R_load1 g55 rfl (hS.cell 7 rfl rfl)) rfl rfl ?_
                          refine WL.val (R_lenS u55 rfl) rfl rfl ?_
                          refine WL.val (R_move rfl) rfl rfl ?_
                          refine WL.nil ?_
                          refine WQ.thenC ?_
                          refine WC.block ?_
                          have hS := hS.nilRow (RI .i64) 3
                          have hS := hS.pick [1, 2, 3, 4, 5, 6, 7, 8, 9, 0] [0, 1, 4, 2, 3] rfl
                          refine WC.loopJ (fun m env w => ∃ (y58034 : List Int), ∃ (y58035 : Int), ∃ (A58031 : Option Addr), ∃ (n58032 : Nat), ∃ (c58033 : Nat), env = [(2, .pointer (some ⟨b32585, 0, none⟩)), (4, .pointer (some ⟨b32595, 0, none⟩)), (6, .pointer (some ⟨b32601, 0, none⟩)), (9, .pointer (some ⟨b55020, 0, none⟩)), (11, .pointer (some ⟨b57807, 0, none⟩)), (12, .pointer (some ⟨b57808, 0, none⟩)), (32, .slice A19 p12.trees.length c20), (33, .int .i64 (p12.trees.length : Int)), (34, .int .i64 y47545), (42, .slice A55016 x55008.nodes.length c55017), (43, .int .i64 (x55008.nodes.length : Int)), (44, .int .i64 y56873), (76, .slice A57804 x57796.cats.length c57805), (77, .int .i64 (x57796.cats.length : Int)), (78, .int .i64 y58035)] ∧ Sta w0 M [Blk b32585 [.slice none 0 0, .slice none 0 0, .int .i64 (0 : Int), .slice none 0 0, .slice none 0 0] 147, Blk b32595 [.slice A32589 r32586.cuts.length c32590, .slice A32592 r32586.cats.length c32593] 70, Blk b32601 [.slice A32589 r32586.cuts.length c32590, .slice A32592 r32586.cats.length c32593, .int .i64 p12.outputs, .slice A32602 y32605.length c32604, .slice A47541 y47544.length c47543] 147, Row (RI .i64) 2 (.slice A32602 y32605.length c32604) y32605, Row RBinTree 212 (.slice A47541 y47544.length c47543) y47544, Blk b55020 [.int .i64 x55008.output, .slice A56869 y56872.length c56871] 212, Row RBinNode 214 (.slice A56869 y56872.length c56871) y56872, Blk b57807 [.int .u8 x57796.kind, .int .i64 x57796.value, .int .i64 x57796.feature, .float .f64 x57796.threshold, .slice A57804 x57796.cats.length c57805, .int .u8 x57796.missing, .int .i64 x57796.left, .int .i64 x57796.right] 58, Blk b57808 [.int .u8 x57796.kind, .int .i64 x57796.value, .int .i64 x57796.feature, .int .i64 y57825, .slice A58031 n58032 c58033, .int .u8 x57796.missing, .int .i64 x57796.left, .int .i64 x57796.right] 214, Row (RI .i64) 3 (.slice A58031 n58032 c58033) y58034] [FSl RTree A19 c20 p12.trees, FSl RNode A55016 c55017 x55008.nodes, FSl (RI .i64) A57804 c57805 x57796.cats, FSl (RSl RF) A32589 c32590 r32586.cuts, FSl (RSl (RI .i64)) A32592 c32593 r32586.cats] w ∧ bins_Compile_l2 k x57796 r32586 m y58034 y58035 = some o57970) k ⟨([] : List Int), (0 : Int), none, 0, 0, rfl, hS, h⟩ ⟨rfl, rfl, rfl, rfl, rfl, rfl, rfl, rfl, rfl, rfl, rfl, rfl, rfl, rfl, rfl, trivial⟩ (fun env w hI => ?_) (fun m env w hI => ?_)
                          · obtain ⟨y58034, y58035, A58031, n58032, c58033, rfl, hS, h⟩ := hI
                            rw [bins_Compile_l2] at h
                            cases h
                          · obtain ⟨y58034, y58035, A58031, n58032, c58033, rfl, hS, h⟩ := hI
                            rw [bins_Compile_l2] at h
                            obtain rfl := Row.len (hS.res 9 rfl)
                            refine WC.seq ?_
                            refine WC.reg ?_
                            refine WL.val (R_cmp rfl rfl rfl) rfl rfl ?_
                            refine WL.nil ?_
                            refine WQ.thenC ?_
                            refine WC.seq ?_
                            refine WC.cond rfl (fun hb58094 => ?_) (fun hb58094 => ?_)
                            · have h := ifT hb58094 h
                              refine WC.skip ?_
                              refine WQ.thenC ?_
                              obtain ⟨o58124, h58125, h58126⟩ := bindS h
                              refine WC.seqM (fun env w => ∃ (y58123 : List Int), ∃ (A58120 : Option Addr), ∃ (n58121 : Nat), ∃ (c58122 : Nat), y58123 = o58124 ∧ env = [(2, .pointer (some ⟨b32585, 0, none⟩)), (4, .pointer (some ⟨b32595, 0, none⟩)), (6, .pointer (some ⟨b32601, 0, none⟩)), (9, .pointer (some ⟨b55020, 0, none⟩)), (11, .pointer (some ⟨b57807, 0, none⟩)), (12, .pointer (some ⟨b57808, 0, none⟩)), (32, .slice A19 p12.trees.length c20), (33, .int .i64 (p12.trees.length : Int)), (34, .int .i64 y47545), (42, .slice A55016 x55008.nodes.length c55017), (43, .int .i64 (x55008.nodes.length : Int)), (44, .int .i64 y56873), (76, .slice A57804 x57796.cats.length c57805), (77, .int .i64 (x57796.cats.length : Int)), (78, .int .i64 y58035)] ∧ Sta w0 M [Blk b32585 [.slice none 0 0, .slice none 0 0, .int .i64 (0 : Int), .slice none 0 0, .slice none 0 0] 147, Blk b32595 [.slice A32589 r32586.cuts.length c32590, .slice A32592 r32586.cats.length c32593] 70, Blk b32601 [.slice A32589 r32586.cuts.length c32590, .slice A32592 r32586.cats.length c32593, .int .i64 p12.outputs, .slice A32602 y32605.length c32604, .slice A47541 y47544.length c47543] 147, Row (RI .i64) 2 (.slice A32602 y32605.length c32604) y32605, Row RBinTree 212 (.slice A47541 y47544.length c47543) y47544, Blk b55020 [.int .i64 x55008.output, .slice A56869 y56872.length c56871] 212, Row RBinNode 214 (.slice A56869 y56872.length c56871) y56872, Blk b57807 [.int .u8 x57796.kind, .int .i64 x57796.value, .int .i64 x57796.feature, .float .f64 x57796.threshold, .slice A57804 x57796.cats.length c57805, .int .u8 x57796.missing, .int .i64 x57796.left, .int .i64 x57796.right] 58, Blk b57808 [.int .u8 x57796.kind, .int .i64 x57796.value, .int .i64 x57796.feature, .int .i64 y57825, .slice A58120 n58121 c58122, .int .u8 x57796.missing, .int .i64 x57796.left, .int .i64 x57796.right] 214, Row (RI .i64) 3 (.slice A58120 n58121 c58122) y58123] [FSl RTree A19 c20 p12.trees, FSl RNode A55016 c55017 x55008.nodes, FSl (RI .i64) A57804 c57805 x57796.cats, FSl (RSl RF) A32589 c32590 r32586.cuts, FSl (RSl (RI .i64)) A32592 c32593 r32586.cats] w) ?_ ?_
                              · have h := h58125
                                refine WC.block ?_
                                refine WC.seq ?_
                                refine WC.reg ?_
                                obtain ⟨x58127, hx58128, h⟩ := bindS h
                                obtain ⟨ad58129, cs58130, hA58131, hq58132, hK58133, hc58134⟩ := hS.sget 2 rfl (rdS hx58128).2.2
                                obtain rfl := hK58133
                                refine WL.val (R_indexAddr u55 z3 rfl rfl hA58131 (rdS hx58128).1 hq58132) rfl rfl ?_
                                refine WL.val (R_load1 g3 rfl (hc58134 0 _ rfl)) rfl rfl ?_
                                refine WL.val (R_assign rfl) rfl rfl ?_
                                refine WL.nil ?_
                                refine WQ.thenC ?_
                                obtain ⟨x58135, hx58136, h⟩ := bindS h
                                obtain ⟨r58146, hr58147, h⟩ := bindS h
                                obtain ⟨hg58149, h⟩ := grdS h
                                obtain ⟨ad58137, cs58138, hA58139, hq58140, hK58141, hS⟩ := hS.hoist 4 rfl (rdS hx58136).2.2
                                obtain ⟨A58143, c58144, rfl, hs58145⟩ := hK58141
                                have hS := hS.addF (FSl (RI .i64) A58143 c58144 x58135) hs58145
                                refine WC.held (Sta w0 M [Blk b32585 [.slice none 0 0, .slice none 0 0, .int .i64 (0 : Int), .slice none 0 0, .slice none 0 0] 147, Blk b32595 [.slice A32589 r32586.cuts.length c32590, .slice A32592 r32586.cats.length c32593] 70, Blk b32601 [.slice A32589 r32586.cuts.length c32590, .slice A32592 r32586.cats.length c32593, .int .i64 p12.outputs, .slice A32602 y32605.length c32604, .slice A47541 y47544.length c47543] 147, Row (RI .i64) 2 (.slice A32602 y32605.length c32604) y32605, Row RBinTree 212 (.slice A47541 y47544.length c47543) y47544, Blk b55020 [.int .i64 x55008.output, .slice A56869 y56872.length c56871] 212, Row RBinNode 214 (.slice A56869 y56872.length c56871) y56872, Blk b57807 [.int .u8 x57796.kind, .int .i64 x57796.value, .int .i64 x57796.feature, .float .f64 x57796.threshold, .slice A57804 x57796.cats.length c57805, .int .u8 x57796.missing, .int .i64 x57796.left, .int .i64 x57796.right] 58] [FSl (RI .i64) A58143 c58144 x58135, FCs (ad58137.add (x57796.feature.toNat * 1)) [.slice A58143 x58135.length c58144], FSl RTree A19 c20 p12.trees, FSl RNode A55016 c55017 x55008.nodes, FSl (RI .i64) A57804 c57805 x57796.cats, FSl (RSl RF) A32589 c32590 r32586.cuts, FSl (RSl (RI .i64)) A32592 c32593 r32586.cats]) fol hS rfl ?_
                                intro w hS
                                refine HL.val 0 #[true, false, false, false, false, false, false, false, false, false, false, false, false, false] rfl (by kernel_rfl) (by kernel_rfl) (by kernel_rfl) rfl rfl (hS.pick [0, 1, 2, 3, 4, 5, 6, 7] [0, 1, 2, 3, 4, 5, 6] rfl) (fun w hS => R_fieldB o214_4 rfl) ?_
                                refine HL.val 2 #[true, false, true, false, false, false, false, false, false, false, false, false, false, false] rfl (by kernel_rfl) (by kernel_rfl) (by kernel_rfl) rfl rfl (hS.pick [0, 1, 2, 3, 4, 5, 6, 7] [0, 1, 2, 3, 4, 5, 6] rfl) (fun w hS => R_fieldB o70_1 rfl) ?_
                                refine HL.val 3 #[true, false, true, true, false, false, false, false, false, false, false, false, false, false] rfl (by kernel_rfl) (by kernel_rfl) (by kernel_rfl) rfl rfl (hS.pick [0, 1, 2, 3, 4, 5, 6, 7] [0, 1, 2, 3, 4, 5, 6] rfl) (fun w hS => R_load1 g68 rfl (hS.cell 1 rfl rfl)) ?_
                                refine HL.val 4 #[true, false, true, true, true, false, false, false, false, false, false, false, false, false] rfl (by kernel_rfl) (by kernel_rfl) (by kernel_rfl) rfl rfl (hS.pick [0, 1, 2, 3, 4, 5, 6, 7] [0, 1, 2, 3, 4, 5, 6] rfl) (fun w hS => R_fieldB o58_2 rfl) ?_
                                refine HL.val 5 #[true, false, true, true, true, true, false, false, false, false, false, false, false, false] rfl (by kernel_rfl) (by kernel_rfl) (by kernel_rfl) rfl rfl (hS.pick [0, 1, 2, 3, 4, 5, 6, 7] [0, 1, 2, 3, 4, 5, 6] rfl) (fun w hS => R_load1 g3 rfl (hS.cell 7 rfl rfl)) ?_
                                refine HL.val 6 #[true, false, true, true, true, true, true, false, false, false, false, false, false, false] rfl (by kernel_rfl) (by kernel_rfl) (by kernel_rfl) rfl rfl (hS.pick [0, 1, 2, 3, 4, 5, 6, 7] [0, 1, 2, 3, 4, 5, 6] rfl) (fun w hS => R_indexAddr u68 z55 rfl rfl hA58139 (rdS hx58136).1 hq58140) ?_
                                refine HL.val 7 #[true, false, true, true, true, true, true, true, false, false, false, false, false, false] rfl (by kernel_rfl) (by kernel_rfl) (by kernel_rfl) rfl rfl (hS.pick [0, 1, 2, 3, 4, 5, 6, 7] [0, 1, 2, 3, 4, 5, 6] rfl) (fun w hS => R_load1 g55 rfl (hS.fc 1 rfl 0 rfl)) ?_
                                refine HL.val 8 #[true, false, true, true, true, true, true, true, true, false, false, false, false, false] rfl (by kernel_rfl) (by kernel_rfl) (by kernel_rfl) rfl rfl (hS.pick [0, 1, 2, 3, 4, 5, 6, 7] [0, 1, 2, 3, 4, 5, 6] rfl) (fun w hS => R_move rfl) ?_
                                refine HL.all [1, 9] (by kernel_rfl) rfl ⟨?_, ?_, trivial⟩
                                · refine HO.of #[true, true, true, true, true, true, true, true, true, false, false, false, false, false] rfl rfl ?_
                                  refine WL.val (R_load1 g55 rfl (hS.cell 8 rfl rfl)) rfl rfl ?_
                                  refine WL.nil ?_
                                  refine HL.next (hS.pick [0, 1, 2, 3, 4, 5, 6, 7] [0, 1, 2, 3, 4, 5, 6] rfl) ?_
                                  refine HL.all [9] (by kernel_rfl) rfl ⟨?_, trivial⟩
                                  refine HO.of #[true, true, true, true, true, true, true, true, true, true, false, false, false, false] rfl rfl ?_
                                  refine WL.call e134 rfl rfl hS (bins_below_int_int__bins_Compile_1_ok (hS).mx_lt k x58135 x58127 (hS.sl 0 rfl) _ hr58147) rfl ?_
                                  intro v w hB hS hP
                                  obtain ⟨rfl⟩ := hP
                                  refine WL.nil ?_
                                  refine HL.next (hS.pick [0, 1, 2, 3, 4, 5, 6, 7] [0, 1, 2, 3, 4, 5, 6] rfl) ?_
                                  refine HL.all [10] (by kernel_rfl) rfl ⟨?_, trivial⟩
                                  refine HO.of #[true, true, true, true, true, true, true, true, true, true, true, false, false, false] rfl rfl ?_
                                  refine WL.lit [.int .i64 r58146] u55 rfl (by kernel_rfl) hS rfl ?_
                                  intro b58148 w hS
                                  refine WL.nil ?_
                                  refine HL.next (hS.pick [1, 2, 3, 4, 5, 6, 7, 8] [0, 1, 2, 3, 4, 5, 6] rfl) ?_
                                  refine HL.all [11] (by kernel_rfl) rfl ⟨?_, trivial⟩
                                  refine HO.of #[true, true, true, true, true, true, true, true, true, true, true, true, false, false] rfl rfl ?_
                                  refine WL.append (R := (RI .i64)) (zs := [r58146]) 10 u55 z3 rfl rfl rfl hS rfl rfl rfl rfl (Blk.src (hS.res 0 rfl) ⟨[_], _, rfl, rfl, rfl⟩) hg58149 rfl rfl ?_
                                  intro A58150 c58151 w hS
                                  refine WL.nil ?_
                                  refine HL.next (hS.pick [1, 2, 3, 4, 5, 6, 7, 8] [0, 1, 2, 3, 4, 5, 6] rfl) ?_
                                  refine HL.val 12 #[true, true, true, true, true, true, true, true, true, true, true, true, true, false] rfl (by kernel_rfl) (by kernel_rfl) (by kernel_rfl) rfl rfl (hS.pick [1, 2, 3, 4, 5, 6, 7, 8] [0, 1, 2, 3, 4, 5, 6] rfl) (fun w hS => R_fieldB o214_4 rfl) ?_
                                  refine HL.all [13] (by kernel_rfl) rfl ⟨?_, trivial⟩
                                  refine HO.of #[true, true, true, true, true, true, true, true, true, true, true, true, true, true] rfl rfl ?_
                                  refine WL.storeB 9 [.slice A58150 ((y58034 ++ [r58146]).length) c58151] g55 hS rfl rfl rfl rfl rfl rfl rfl [.int .u8 x57796.kind, .int .i64 x57796.value, .int .i64 x57796.feature, .int .i64 y57825, .slice A58150 ((y58034 ++ [r58146]).length) c58151, .int .u8 x57796.missing, .int .i64 x57796.left, .int .i64 x57796.right] rfl ?_
                                  intro w hS
                                  refine WL.nil ?_
                                  refine HL.next (hS.pick [1, 2, 3, 4, 5, 6, 7, 8] [0, 1, 2, 3, 4, 5, 6] rfl) ?_
                                  refine HL.done (by kernel_rfl) (HL.keepQ ?_)
                                  refine WQ.blockN ?_
                                  have hS := hS.pick [1, 2, 3, 4, 5, 6, 7, 8, 9, 10] [2, 3, 4, 5, 6] rfl
                                  exact WQ.toJ ⟨(y58034 ++ [r58146]), A58150, (y58034 ++ [r58146]).length, c58151, Option.some.inj h, rfl, hS⟩ ⟨rfl, rfl, rfl, rfl, rfl, rfl, rfl, rfl, rfl, rfl, rfl, rfl, rfl, rfl, rfl, trivial⟩
                                · refine HO.of #[true, false, true, true, true, true, true, true, true, true, false, false, false, false] rfl rfl ?_
                                  refine WL.call e134 rfl rfl hS (bins_below_int_int__bins_Compile_1_ok (hS).mx_lt k x58135 x58127 (hS.sl 0 rfl) _ hr58147) rfl ?_
                                  intro v w hB hS hP
                                  obtain ⟨rfl⟩ := hP
                                  refine WL.nil ?_
                                  refine HL.next (hS.pick [0, 1, 2, 3, 4, 5, 6, 7] [0, 1, 2, 3, 4, 5, 6] rfl) ?_
                                  refine HL.all [1, 10] (by kernel_rfl) rfl ⟨?_, ?_, trivial⟩
                                  · refine HO.of #[true, true, true, true, true, true, true, true, true, true, false, false, false, false] rfl rfl ?_
                                    refine WL.val (R_load1 g55 rfl (hS.cell 8 rfl rfl)) rfl rfl ?_
                                    refine WL.nil ?_
                                    refine HL.next (hS.pick [0, 1, 2, 3, 4, 5, 6, 7] [0, 1, 2, 3, 4, 5, 6] rfl) ?_
                                    refine HL.all [10] (by kernel_rfl) rfl ⟨?_, trivial⟩
                                    refine HO.of #[true, true, true, true, true, true, true, true, true, true, true, false, false, false] rfl rfl ?_
                                    refine WL.lit [.int .i64 r58146] u55 rfl (by kernel_rfl) hS rfl ?_
                                    intro b58148 w hS
                                    refine WL.nil ?_
                                    refine HL.next (hS.pick [1, 2, 3, 4, 5, 6, 7, 8] [0, 1, 2, 3, 4, 5, 6] rfl) ?_
                                    refine HL.all [11] (by kernel_rfl) rfl ⟨?_, trivial⟩
                                    refine HO.of #[true, true, true, true, true, true, true, true, true, true, true, true, false, false] rfl rfl ?_
                                    refine WL.append (R := (RI .i64)) (zs := [r58146]) 10 u55 z3 rfl rfl rfl hS rfl rfl rfl rfl (Blk.src (hS.res 0 rfl) ⟨[_], _, rfl, rfl, rfl⟩) hg58149 rfl rfl ?_
                                    intro A58150 c58151 w hS
                                    refine WL.nil ?_
                                    refine HL.next (hS.pick [1, 2, 3, 4, 5, 6, 7, 8] [0, 1, 2, 3, 4, 5, 6] rfl) ?_
                                    refine HL.val 12 #[true, true, true, true, true, true, true, true, true, true, true, true, true, false] rfl (by kernel_rfl) (by kernel_rfl) (by kernel_rfl) rfl rfl (hS.pick [1, 2, 3, 4, 5, 6, 7, 8] [0, 1, 2, 3, 4, 5, 6] rfl) (fun w hS => R_fieldB o214_4 rfl) ?_
                                    refine HL.all [13] (by kernel_rfl) rfl ⟨?_, trivial⟩
                                    refine HO.of #[true, true, true, true, true, true, true, true, true, true, true, true, true, true] rfl rfl ?_
                                    refine WL.storeB 9 [.slice A58150 ((y58034 ++ [r58146]).length) c58151] g55 hS rfl rfl rfl rfl rfl rfl rfl [.int .u8 x57796.kind, .int .i64 x57796.value, .int .i64 x57796.feature, .int .i64 y57825, .slice A58150 ((y58034 ++ [r58146]).length) c58151, .int .u8 x57796.missing, .int .i64 x57796.left, .int .i64 x57796.right] rfl ?_
                                    intro w hS
                                    refine WL.nil ?_
                                    refine HL.next (hS.pick [1, 2, 3, 4, 5, 6, 7, 8] [0, 1, 2, 3, 4, 5, 6] rfl) ?_
                                    refine HL.done (by kernel_rfl) (HL.keepQ ?_)
                                    refine WQ.blockN ?_
                                    have hS := hS.pick [1, 2, 3, 4, 5, 6, 7, 8, 9, 10] [2, 3, 4, 5, 6] rfl
                                    exact WQ.toJ ⟨(y58034 ++ [r58146]), A58150, (y58034 ++ [r58146]).length, c58151, Option.some.inj h, rfl, hS⟩ ⟨rfl, rfl, rfl, rfl, rfl, rfl, rfl, rfl, rfl, rfl, rfl, rfl, rfl, rfl, rfl, trivial⟩
                                  · refine HO.of #[true, false, true, true, true, true, true, true, true, true, true, false, false, false] rfl rfl ?_
                                    refine WL.lit [.int .i64 r58146] u55 rfl (by kernel_rfl) hS rfl ?_
                                    intro b58148 w hS
                                    refine WL.nil ?_
                                    refine HL.next (hS.pick [1, 2, 3, 4, 5, 6, 7, 8] [0, 1, 2, 3, 4, 5, 6] rfl) ?_
                                    refine HL.all [1] (by kernel_rfl) rfl ⟨?_, trivial⟩
                                    refine HO.of #[true, true, true, true, true, true, true, true, true, true, true, false, false, false] rfl rfl ?_
                                    refine WL.val (R_load1 g55 rfl (hS.cell 9 rfl rfl)) rfl rfl ?_
                                    refine WL.nil ?_
                                    refine HL.next (hS.pick [1, 2, 3, 4, 5, 6, 7, 8] [0, 1, 2, 3, 4, 5, 6] rfl) ?_
                                    refine HL.all [11] (by kernel_rfl) rfl ⟨?_, trivial⟩
                                    refine HO.of #[true, true, true, true, true, true, true, true, true, true, true, true, false, false] rfl rfl ?_
                                    refine WL.append (R := (RI .i64)) (zs := [r58146]) 10 u55 z3 rfl rfl rfl hS rfl rfl rfl rfl (Blk.src (hS.res 0 rfl) ⟨[_], _, rfl, rfl, rfl⟩) hg58149 rfl rfl ?_
                                    intro A58150 c58151 w hS
                                    refine WL.nil ?_
                                    refine HL.next (hS.pick [1, 2, 3, 4, 5, 6, 7, 8] [0, 1, 2, 3, 4, 5, 6] rfl) ?_
                                    refine HL.val 12 #[true, true, true, true, true, true, true, true, true, true, true, true, true, false] rfl (by kernel_rfl) (by kernel_rfl) (by kernel_rfl) rfl rfl (hS.pick [1, 2, 3, 4, 5, 6, 7, 8] [0, 1, 2, 3, 4, 5, 6] rfl) (fun w hS => R_fieldB o214_4 rfl) ?_
                                    refine HL.all [13] (by kernel_rfl) rfl ⟨?_, trivial⟩
                                    refine HO.of #[true, true, true, true, true, true, true, true, true, true, true, true, true, true] rfl rfl ?_
                                    refine WL.storeB 9 [.slice A58150 ((y58034 ++ [r58146]).length) c58151] g55 hS rfl rfl rfl rfl rfl rfl rfl [.int .u8 x57796.kind, .int .i64 x57796.value, .int .i64 x57796.feature, .int .i64 y57825, .slice A58150 ((y58034 ++ [r58146]).length) c58151, .int .u8 x57796.missing, .int .i64 x57796.left, .int .i64 x57796.right] rfl ?_
                                    intro w hS
                                    refine WL.nil ?_
                                    refine HL.next (hS.pick [1, 2, 3, 4, 5, 6, 7, 8] [0, 1, 2, 3, 4, 5, 6] rfl) ?_
                                    refine HL.done (by kernel_rfl) (HL.keepQ ?_)
                                    refine WQ.blockN ?_
                                    have hS := hS.pick [1, 2, 3, 4, 5, 6, 7, 8, 9, 10] [2, 3, 4, 5, 6] rfl
                                    exact WQ.toJ ⟨(y58034 ++ [r58146]), A58150, (y58034 ++ [r58146]).length, c58151, Option.some.inj h, rfl, hS⟩ ⟨rfl, rfl, rfl, rfl, rfl, rfl, rfl, rfl, rfl, rfl, rfl, rfl, rfl, rfl, rfl, trivial⟩
                              · rintro _ w ⟨y58123, A58120, n58121, c58122, rfl, rfl, hS⟩
                                have h := h58126
                                try dsimp only at h
                                obtain rfl := Row.len (hS.res 9 rfl)
                                refine WC.reg ?_
                                refine WL.val (R_ar rfl rfl rfl) rfl rfl ?_
                                refine WL.val (R_move rfl) rfl rfl ?_
                                refine WL.nil ?_
                                have hS := hS.pick [0, 1, 2, 3, 4, 5, 6, 7, 8, 9] [0, 1, 2, 3, 4] rfl
                                exact WQ.toJ ⟨y58123, (IntKind.i64.wrap (y58035 + (1 : Int))), A58120, y58123.length, c58122, rfl, hS, h⟩ ⟨rfl, rfl, rfl, rfl, rfl, rfl, rfl, rfl, rfl, rfl, rfl, rfl, rfl, rfl, rfl, trivial⟩
                            · have h := ifF hb58094 h
                              refine WC.exit ?_
                              refine WQ.thenE ?_
                              refine WQ.thenE ?_
                              refine WQ.blockE ?_
                              have hS := hS.pick [0, 1, 2, 3, 4, 5, 6, 8, 9] [0, 1, 3, 4] rfl
                              exact WQ.toJ ⟨y58034, A58031, y58034.length, c58033, Option.some.inj h, rfl, hS⟩ ⟨rfl, rfl, rfl, rfl, rfl, rfl, rfl, rfl, rfl, rfl, rfl, trivial⟩
                        · rintro _ w ⟨y57969, A57966, n57967, c57968, rfl, rfl, hS⟩
                          have h := h57972
                          try dsimp only at h
                          obtain rfl := Row.len (hS.res 8 rfl)
                          refine WC.reg ?_
                          refine WL.val (R_fieldB o212_1 rfl) rfl rfl ?_
                          refine WL.val (R_load1 g210 rfl (hS.cell 5 rfl rfl)) rfl rfl ?_
                          refine WL.val (R_loadA g214 rfl rfl (hS.cells 7 (o := 0) (m := 8) rfl rfl)) rfl rfl ?_
                          refine WL.lit [.int .u8 x57796.kind, .int .i64 x57796.value, .int .i64 x57796.feature, .int .i64 y57825, .slice A57966 y57969.length c57968, .int .u8 x57796.missing, .int .i64 x57796.left, .int .i64 x57796.right] u210 rfl (by kernel_rfl) hS rfl ?_
                          intro b58152 w hS
                          have hS := hS.freeze 9 rfl
                          obtain ⟨hg58153, h⟩ := grdS h
                          refine WL.append (R := RBinNode) (zs := [(⟨x57796.kind, x57796.value, x57796.feature, y57825, y57969, x57796.missing, x57796.left, x57796.right⟩ : BinNode)]) 7 u210 z214 rfl rfl rfl hS rfl rfl rfl rfl (Blk.src (hS.res 0 rfl) ⟨[_, _, _, _, _, _, _, _], _, rfl, ⟨A57966, c57968, rfl, hS.sl 0 rfl⟩, rfl⟩) hg58153 rfl rfl ?_
                          intro A58154 c58155 w hS
                          refine WL.val (R_fieldB o212_1 rfl) rfl rfl ?_
                          refine WL.storeB 6 [.slice A58154 ((y56872 ++ [(⟨x57796.kind, x57796.value, x57796.feature, y57825, y57969, x57796.missing, x57796.left, x57796.right⟩ : BinNode)]).length) c58155] g210 hS rfl rfl rfl rfl rfl rfl rfl [.int .i64 x55008.output, .slice A58154 ((y56872 ++ [(⟨x57796.kind, x57796.value, x57796.feature, y57825, y57969, x57796.missing, x57796.left, x57796.right⟩ : BinNode)]).length) c58155] rfl ?_
                          intro w hS
                          refine WL.nil ?_
                          refine WQ.blockN ?_
                          have hS := hS.pick [1, 2, 3, 4, 5, 6, 7] [1, 2, 3, 4] rfl
                          exact WQ.toJ ⟨(y56872 ++ [(⟨x57796.kind, x57796.value, x57796.feature, y57825, y57969, x57796.missing, x57796.left, x57796.right⟩ : BinNode)]), A58154, (y56872 ++ [(⟨x57796.kind, x57796.value, x57796.feature, y57825, y57969, x57796.missing, x57796.left, x57796.right⟩ : BinNode)]).length, c58155, Option.some.inj h, rfl, hS⟩ ⟨rfl, rfl, rfl, rfl, rfl, rfl, rfl, rfl, rfl, rfl, trivial⟩
                    · rintro _ w ⟨y57792, A57789, n57790, c57791, rfl, rfl, hS⟩
                      have h := h57795
                      try dsimp only at h
                      obtain rfl := Row.len (hS.res 6 rfl)
                      refine WC.reg ?_
                      refine WL.val (R_ar rfl rfl rfl) rfl rfl ?_
                      refine WL.val (R_move rfl) rfl rfl ?_
                      refine WL.nil ?_
                      have hS := hS.pick [0, 1, 2, 3, 4, 5, 6] [0, 1, 2, 3] rfl
                      exact WQ.toJ ⟨y57792, (IntKind.i64.wrap (y56873 + (1 : Int))), A57789, y57792.length, c57791, rfl, hS, h⟩ ⟨rfl, rfl, rfl, rfl, rfl, rfl, rfl, rfl, rfl, rfl, trivial⟩
                  · have h := ifF hb57486 h
                    refine WC.exit ?_
                    refine WQ.thenE ?_
                    refine WQ.thenE ?_
                    refine WQ.blockE ?_
                    have hS := hS.pick [0, 1, 2, 3, 4, 5, 6] [0, 2, 3] rfl
                    exact WQ.toJ ⟨y56872, A56869, y56872.length, c56871, Option.some.inj h, rfl, hS⟩ ⟨rfl, rfl, rfl, rfl, rfl, rfl, rfl, trivial⟩
              · rintro _ w ⟨y56253, A56250, n56251, c56252, rfl, rfl, hS⟩
                have h := h56256
                try dsimp only at h
                obtain rfl := Row.len (hS.res 6 rfl)
                refine WC.reg ?_
                refine WL.val (R_fieldB o147_3 rfl) rfl rfl ?_
                refine WL.val (R_load1 g145 rfl (hS.cell 2 rfl rfl)) rfl rfl ?_
                refine WL.val (R_loadA g212 rfl rfl (hS.cells 5 (o := 0) (m := 2) rfl rfl)) rfl rfl ?_
                refine WL.lit [.int .i64 x55008.output, .slice A56250 y56253.length c56252] u145 rfl (by kernel_rfl) hS rfl ?_
                intro b58156 w hS
                have hS := hS.freeze 7 rfl
                obtain ⟨hg58157, h⟩ := grdS h
                refine WL.append (R := RBinTree) (zs := [(⟨x55008.output, y56253⟩ : BinTree)]) 5 u145 z212 rfl rfl rfl hS rfl rfl rfl rfl (Blk.src (hS.res 0 rfl) ⟨[_, _], _, rfl, ⟨A56250, c56252, rfl, hS.sl 0 rfl⟩, rfl⟩) hg58157 rfl rfl ?_
                intro A58158 c58159 w hS
                refine WL.val (R_fieldB o147_3 rfl) rfl rfl ?_
                refine WL.storeB 3 [.slice A58158 ((y47544 ++ [(⟨x55008.output, y56253⟩ : BinTree)]).length) c58159] g145 hS rfl rfl rfl rfl rfl rfl rfl [.slice A32589 r32586.cuts.length c32590, .slice A32592 r32586.cats.length c32593, .int .i64 p12.outputs, .slice A32602 y32605.length c32604, .slice A58158 ((y47544 ++ [(⟨x55008.output, y56253⟩ : BinTree)]).length) c58159] rfl ?_
                intro w hS
                refine WL.nil ?_
                refine WQ.blockN ?_
                have hS := hS.pick [1, 2, 3, 4, 5] [1, 2, 3] rfl
                exact WQ.toJ ⟨(y47544 ++ [(⟨x55008.output, y56253⟩ : BinTree)]), A58158, (y47544 ++ [(⟨x55008.output, y56253⟩ : BinTree)]).length, c58159, Option.some.inj h, rfl, hS⟩ ⟨rfl, rfl, rfl, rfl, rfl, rfl, trivial⟩
            · rintro _ w ⟨y55004, A55001, n55002, c55003, rfl, rfl, hS⟩
              have h := h55007
              try dsimp only at h
              obtain rfl := Row.len (hS.res 4 rfl)
              refine WC.reg ?_
              refine WL.val (R_ar rfl rfl rfl) rfl rfl ?_
              refine WL.val (R_move rfl) rfl rfl ?_
              refine WL.nil ?_
              have hS := hS.pick [0, 1, 2, 3, 4] [0, 1, 2] rfl
              exact WQ.toJ ⟨y55004, (IntKind.i64.wrap (y47545 + (1 : Int))), A55001, y55004.length, c55003, rfl, hS, h⟩ ⟨rfl, rfl, rfl, rfl, rfl, rfl, trivial⟩
          · have h := ifF hb52518 h
            refine WC.exit ?_
            refine WQ.thenE ?_
            refine WQ.thenE ?_
            refine WQ.blockE ?_
            have hS := hS.pick [0, 2, 3, 4] [1, 2] rfl
            exact WQ.toJ ⟨y47544, A47541, y47544.length, c47543, Option.some.inj h, rfl, hS⟩ ⟨rfl, rfl, trivial⟩
      · rintro _ w ⟨y42565, A42562, n42563, c42564, rfl, rfl, hS⟩
        have h := h42568
        try dsimp only at h
        obtain rfl := Row.len (hS.res 3 rfl)
        refine WC.seq ?_
        refine WC.reg ?_
        refine WL.val (R_loadA g147 rfl rfl (hS.cells 1 (o := 0) (m := 5) rfl rfl)) rfl rfl ?_
        refine WL.storeB 0 [.slice A32589 r32586.cuts.length c32590, .slice A32592 r32586.cats.length c32593, .int .i64 p12.outputs, .slice A32602 y32605.length c32604, .slice A42562 y42565.length c42564] g147 hS rfl rfl rfl rfl rfl rfl rfl [.slice A32589 r32586.cuts.length c32590, .slice A32592 r32586.cats.length c32593, .int .i64 p12.outputs, .slice A32602 y32605.length c32604, .slice A42562 y42565.length c42564] rfl ?_
        intro w hS
        refine WL.val (R_assign rfl) rfl rfl ?_
        refine WL.nil ?_
        refine WQ.thenC ?_
        refine WC.ret ?_
        have hS := hS.freeze 2 rfl
        have hS := hS.freeze 2 rfl
        have hS0 := hS
        have h := Option.some.inj h
        obtain ⟨rfl, rfl⟩ := Prod.mk.inj h
        exact ret_2 rfl (resV_B 0 hS0 rfl rfl g147 rfl) rfl ⟨_, rfl, hS.bel, ⟨A32589, c32590, A32592, c32593, A32602, c32604, A42562, c42564, rfl, hS.out 2 rfl, hS.out 3 rfl, hS.out 1 rfl, hS.out 0 rfl⟩⟩

def math_Signbit (p58250 : Nat) : Option Bool :=
    some (decide ((IntKind.i64.wrap (p58250 : Int)) < (0 : Int)))

theorem math_Signbit_ok {w0 : World} {M : MSet} (hM : ∀ k, M k → k < w0.heap.size) (p58250 : Nat) (r : Bool) (h : math_Signbit p58250 = some r) :
    Calls Tryz.prog 81 #[.float .f64 p58250] w0 (Gives w0 fun v w' => v = .bool r) := by
  have hS := Sta.init hM
  unfold math_Signbit at h
  refine calls_enter (n := 0) Tryz.func81 rfl [(0, .float .f64 p58250)] rfl rfl ⟨rfl, trivial⟩ ?_
  refine WC.seq ?_
  refine WC.reg ?_
  refine WL.val (R_assign rfl) rfl rfl ?_
  refine WL.nil ?_
  refine WQ.thenC ?_
  refine WC.seq ?_
  refine WC.reg ?_
  refine WL.val (R_move rfl) rfl rfl ?_
  refine WL.val (R_f64bits xb104 rfl) rfl rfl ?_
  refine WL.val (R_convI ⟨_, u182⟩ u2 rfl) rfl rfl ?_
  refine WL.val (R_cmp rfl rfl rfl) rfl rfl ?_
  refine WL.val (R_assign rfl) rfl rfl ?_
  refine WL.nil ?_
  refine WQ.thenC ?_
  refine WC.ret ?_
  have hS0 := hS
  obtain rfl := Option.some.inj h
  exact ret_1 rfl rfl ⟨_, rfl, hS.bel, rfl⟩

def cmp_Compare_uint64 (p58284 : Int) (p58285 : Int) : Option Int :=
    (cmp_isNaN_uint64 p58284).bind fun r58295 =>
    (cmp_isNaN_uint64 p58285).bind fun r58297 =>
    if r58295 = true then (if r58297 = true then (some (0 : Int)) else (some (-1 : Int))) else (if r58297 = true then (some (1 : Int)) else (if decide (p58284 < p58285) = true then (some (-1 : Int)) else (if decide (p58285 < p58284) = true then (some (1 : Int)) else (some (0 : Int)))))

theorem cmp_Compare_uint64_ok {w0 : World} {M : MSet} (hM : ∀ k, M k → k < w0.heap.size) (p58284 : Int) (p58285 : Int) (r : Int) (h : cmp_Compare_uint64 p58284 p58285 = some r) :
    Calls Tryz.prog 138 #[.int .u64 p58284, .int .u64 p58285] w0 (Gives w0 fun v w' => v = .int .i64 r) := by
  have hS := Sta.init hM
  unfold cmp_Compare_uint64 at h
  refine calls_enter (n := 0) Tryz.func138 rfl [(0, .int .u64 p58284), (1, .int .u64 p58285)] rfl rfl ⟨rfl, rfl, trivial⟩ ?_
  refine WC.seq ?_
  refine WC.reg ?_
  refine WL.val (R_assign rfl) rfl rfl ?_
  refine WL.nil ?_
  refine WQ.thenC ?_
  refine WC.seq ?_
  refine WC.reg ?_
  refine WL.val (R_move rfl) rfl rfl ?_
  obtain ⟨r58295, hr58296, h⟩ := bindS h
  refine WL.call e189 rfl rfl hS (cmp_isNaN_uint64_ok (hS).mx_lt p58284  _ hr58296) rfl ?_
  intro v w hB hS hP
  obtain ⟨rfl⟩ := hP
  refine WL.val (R_assign rfl) rfl rfl ?_
  refine WL.nil ?_
  refine WQ.thenC ?_
  refine WC.seq ?_
  refine WC.reg ?_
  refine WL.val (R_move rfl) rfl rfl ?_
  obtain ⟨r58297, hr58298, h⟩ := bindS h
  refine WL.call e189 rfl rfl hS (cmp_isNaN_uint64_ok (hS).mx_lt p58285  _ hr58298) rfl ?_
  intro v w hB hS hP
  obtain ⟨rfl⟩ := hP
  refine WL.val (R_assign rfl) rfl rfl ?_
  refine WL.nil ?_
  refine WQ.thenC ?_
  refine WC.seq ?_
  refine WC.seq ?_
  refine WC.reg ?_
  refine WL.val (R_move rfl) rfl rfl ?_
  refine WL.nil ?_
  refine WQ.thenC ?_
  refine WC.cond rfl (fun hb58299 => ?_) (fun hb58299 => ?_)
  · have h := ifT hb58299 h
    refine WC.seq ?_
    refine WC.seq ?_
    refine WC.reg ?_
    refine WL.val (R_move rfl) rfl rfl ?_
    refine WL.nil ?_
    refine WQ.thenC ?_
    refine WC.cond rfl (fun hb58300 => ?_) (fun hb58300 => ?_)
    · have h := ifT hb58300 h
      refine WC.seq ?_
      refine WC.reg ?_
      refine WL.val (R_assign rfl) rfl rfl ?_
      refine WL.nil ?_
      refine WQ.thenC ?_
      refine WC.ret ?_
      refine WQ.thenR ?_
      refine WQ.thenR ?_
      have hS0 := hS
      obtain rfl := Option.some.inj h
      exact ret_1 rfl rfl ⟨_, rfl, hS.bel, rfl⟩
    · have h := ifF hb58300 h
      refine WC.skip ?_
      refine WQ.thenC ?_
      refine WC.seq ?_
      refine WC.reg ?_
      refine WL.val (R_assign rfl) rfl rfl ?_
      refine WL.nil ?_
      refine WQ.thenC ?_
      refine WC.ret ?_
      refine WQ.thenR ?_
      have hS0 := hS
      obtain rfl := Option.some.inj h
      exact ret_1 rfl rfl ⟨_, rfl, hS.bel, rfl⟩
  · have h := ifF hb58299 h
    refine WC.skip ?_
    refine WQ.thenC ?_
    refine WC.seq ?_
    refine WC.seq ?_
    refine WC.reg ?_
    refine WL.val (R_move rfl) rfl rfl ?_
    refine WL.nil ?_
    refine WQ.thenC ?_
    refine WC.cond rfl (fun hb58301 => ?_) (fun hb58301 => ?_)
    · have h := ifT hb58301 h
      refine WC.seq ?_
      refine WC.reg ?_
      refine WL.val (R_assign rfl) rfl rfl ?_
      refine WL.nil ?_
      refine WQ.thenC ?_
      refine WC.ret ?_
      refine WQ.thenR ?_
      have hS0 := hS
      obtain rfl := Option.some.inj h
      exact ret_1 rfl rfl ⟨_, rfl, hS.bel, rfl⟩
    · have h := ifF hb58301 h
      refine WC.skip ?_
      refine WQ.thenC ?_
      refine WC.seq ?_
      refine WC.seq ?_
      refine WC.reg ?_
      refine WL.val (R_move rfl) rfl rfl ?_
      refine WL.val (R_move rfl) rfl rfl ?_
      refine WL.val (R_cmp rfl rfl rfl) rfl rfl ?_
      refine WL.nil ?_
      refine WQ.thenC ?_
      refine WC.cond rfl (fun hb58302 => ?_) (fun hb58302 => ?_)
      · have h := ifT hb58302 h
        refine WC.seq ?_
        refine WC.reg ?_
        refine WL.val (R_assign rfl) rfl rfl ?_
        refine WL.nil ?_
        refine WQ.thenC ?_
        refine WC.ret ?_
        refine WQ.thenR ?_
        have hS0 := hS
        obtain rfl := Option.some.inj h
        exact ret_1 rfl rfl ⟨_, rfl, hS.bel, rfl⟩
      · have h := ifF hb58302 h
        refine WC.skip ?_
        refine WQ.thenC ?_
        refine WC.seq ?_
        refine WC.seq ?_
        refine WC.reg ?_
        refine WL.val (R_move rfl) rfl rfl ?_
        refine WL.val (R_move rfl) rfl rfl ?_
        refine WL.val (R_cmp rfl rfl rfl) rfl rfl ?_
        refine WL.nil ?_
        refine WQ.thenC ?_
        refine WC.cond rfl (fun hb58303 => ?_) (fun hb58303 => ?_)
        · have h := ifT hb58303 h
          refine WC.seq ?_
          refine WC.reg ?_
          refine WL.val (R_assign rfl) rfl rfl ?_
          refine WL.nil ?_
          refine WQ.thenC ?_
          refine WC.ret ?_
          refine WQ.thenR ?_
          have hS0 := hS
          obtain rfl := Option.some.inj h
          exact ret_1 rfl rfl ⟨_, rfl, hS.bel, rfl⟩
        · have h := ifF hb58303 h
          refine WC.skip ?_
          refine WQ.thenC ?_
          refine WC.seq ?_
          refine WC.reg ?_
          refine WL.val (R_assign rfl) rfl rfl ?_
          refine WL.nil ?_
          refine WQ.thenC ?_
          refine WC.ret ?_
          have hS0 := hS
          obtain rfl := Option.some.inj h
          exact ret_1 rfl rfl ⟨_, rfl, hS.bel, rfl⟩

def order_Compare (p58278 : Nat) (p58279 : Nat) : Option Int :=
    (order_Key p58278).bind fun r58306 =>
    (order_Key p58279).bind fun r58308 =>
    (cmp_Compare_uint64 r58306 r58308).bind fun r58310 =>
    some r58310

theorem order_Compare_ok {w0 : World} {M : MSet} (hM : ∀ k, M k → k < w0.heap.size) (p58278 : Nat) (p58279 : Nat) (r : Int) (h : order_Compare p58278 p58279 = some r) :
    Calls Tryz.prog 82 #[.float .f64 p58278, .float .f64 p58279] w0 (Gives w0 fun v w' => v = .int .i64 r) := by
  have hS := Sta.init hM
  unfold order_Compare at h
  refine calls_enter (n := 0) Tryz.func82 rfl [(0, .float .f64 p58278), (1, .float .f64 p58279)] rfl rfl ⟨rfl, rfl, trivial⟩ ?_
  refine WC.seq ?_
  refine WC.reg ?_
  refine WL.val (R_assign rfl) rfl rfl ?_
  refine WL.nil ?_
  refine WQ.thenC ?_
  refine WC.seq ?_
  refine WC.reg ?_
  refine WL.val (R_move rfl) rfl rfl ?_
  obtain ⟨r58306, hr58307, h⟩ := bindS h
  refine WL.call e133 rfl rfl hS (order_Key_ok (hS).mx_lt p58278  _ hr58307) rfl ?_
  intro v w hB hS hP
  obtain ⟨rfl⟩ := hP
  refine WL.val (R_move rfl) rfl rfl ?_
  obtain ⟨r58308, hr58309, h⟩ := bindS h
  refine WL.call e133 rfl rfl hS (order_Key_ok (hS).mx_lt p58279  _ hr58309) rfl ?_
  intro v w hB hS hP
  obtain ⟨rfl⟩ := hP
  obtain ⟨r58310, hr58311, h⟩ := bindS h
  refine WL.call e138 rfl rfl hS (cmp_Compare_uint64_ok (hS).mx_lt r58306 r58308  _ hr58311) rfl ?_
  intro v w hB hS hP
  obtain ⟨rfl⟩ := hP
  refine WL.val (R_assign rfl) rfl rfl ?_
  refine WL.nil ?_
  refine WQ.thenC ?_
  refine WC.ret ?_
  have hS0 := hS
  obtain rfl := Option.some.inj h
  exact ret_1 rfl rfl ⟨_, rfl, hS.bel, rfl⟩

def bins_Right_l1 (k : Nat) (x59779 : List Nat) : Nat → Int → Option (Fl (Fl Bool Unit) Unit)
  | 0, _ => none
  | m + 1, y59804 =>
    if decide (y59804 < (x59779.length : Int)) = true then ((rd x59779 y59804).bind fun x59844 =>
    if (cmpF .neq x59844 x59844) = true then (((some false).map Fl.ret).map Fl.ret) else (if (cmpF .eql x59844 (0 : Nat)) = true then ((math_Signbit x59844).bind fun r59854 =>
    if r59854 = true then (((some false).map Fl.ret).map Fl.ret) else (if decide ((0 : Int) < y59804) = true then ((rd x59779 (IntKind.i64.wrap (y59804 - (1 : Int)))).bind fun x59858 =>
    (order_Compare x59858 x59844).bind fun r59866 =>
    if decide ((0 : Int) ≤ r59866) = true then (((some false).map Fl.ret).map Fl.ret) else (bins_Right_l1 k x59779 m (IntKind.i64.wrap (y59804 + (1 : Int))))) else (bins_Right_l1 k x59779 m (IntKind.i64.wrap (y59804 + (1 : Int)))))) else (if decide ((0 : Int) < y59804) = true then ((rd x59779 (IntKind.i64.wrap (y59804 - (1 : Int)))).bind fun x59870 =>
    (order_Compare x59870 x59844).bind fun r59878 =>
    if decide ((0 : Int) ≤ r59878) = true then (((some false).map Fl.ret).map Fl.ret) else (bins_Right_l1 k x59779 m (IntKind.i64.wrap (y59804 + (1 : Int))))) else (bins_Right_l1 k x59779 m (IntKind.i64.wrap (y59804 + (1 : Int))))))) else (some (.go ()))

def bins_Right_l0 (k : Nat) (p58210 : Bins) : Nat → Int → Option (Fl Bool Unit)
  | 0, _ => none
  | m + 1, y59578 =>
    if decide (y59578 < (p58210.cuts.length : Int)) = true then (((rd p58210.cuts y59578).bind fun x59779 =>
    bins_Right_l1 k x59779 k (0 : Int) : Option (Fl (Fl Bool Unit) Unit)).bind fun o => match o with
    | .ret r => some r
    | .go _ =>
    (bins_Right_l0 k p58210 m (IntKind.i64.wrap (y59578 + (1 : Int))))) else (some (.go ()))

def bins_Right_l3 (k : Nat) (x60302 : List Int) : Nat → Int → Option (Fl (Fl Bool Unit) Unit)
  | 0, _ => none
  | m + 1, y60324 =>
    if decide (y60324 < (x60302.length : Int)) = true then ((rd x60302 y60324).bind fun x60347 =>
    if decide (x60347 < (0 : Int)) = true then (((some false).map Fl.ret).map Fl.ret) else (if decide ((1024 : Int) ≤ x60347) = true then (((some false).map Fl.ret).map Fl.ret) else (if decide ((0 : Int) < y60324) = true then ((rd x60302 (IntKind.i64.wrap (y60324 - (1 : Int)))).bind fun x60358 =>
    if decide (x60347 ≤ x60358) = true then (((some false).map Fl.ret).map Fl.ret) else (bins_Right_l3 k x60302 m (IntKind.i64.wrap (y60324 + (1 : Int))))) else (bins_Right_l3 k x60302 m (IntKind.i64.wrap (y60324 + (1 : Int))))))) else (some (.go ()))

def bins_Right_l2 (k : Nat) (p58210 : Bins) : Nat → Int → Option (Fl Bool Unit)
  | 0, _ => none
  | m + 1, y60161 =>
    if decide (y60161 < (p58210.cats.length : Int)) = true then (((rd p58210.cats y60161).bind fun x60302 =>
    bins_Right_l3 k x60302 k (0 : Int) : Option (Fl (Fl Bool Unit) Unit)).bind fun o => match o with
    | .ret r => some r
    | .go _ =>
    (bins_Right_l2 k p58210 m (IntKind.i64.wrap (y60161 + (1 : Int))))) else (some (.go ()))

def bins_Right (k : Nat) (p58210 : Bins) : Option Bool :=
    (if decide ((p58210.cuts.length : Int) ≠ (p58210.cats.length : Int)) = true then ((some false).map Fl.ret) else (if decide ((p58210.cuts.length : Int) < (1 : Int)) = true then ((some false).map Fl.ret) else (if decide ((65536 : Int) < (p58210.cuts.length : Int)) = true then ((some false).map Fl.ret) else (some (.go ())))) : Option (Fl Bool Unit)).bind fun o => match o with
    | .ret r => some r
    | .go _ =>
    ((bins_Right_l0 k p58210 k (0 : Int) : Option (Fl Bool Unit)).bind fun o => match o with
    | .ret r => some r
    | .go _ =>
    ((bins_Right_l2 k p58210 k (0 : Int) : Option (Fl Bool Unit)).bind fun o => match o with
    | .ret r => some r
    | .go _ =>
    (some true)))

theorem bins_Right_ok {w0 : World} {M : MSet} (hM : ∀ k, M k → k < w0.heap.size) (k : Nat) (p58210 : Bins) {A58211 : Option Addr} {c58212 : Nat} (hs58213 : p58210.cuts.length ≤ c58212 ∧ Sl (RSl RF) M w0 A58211 p58210.cuts) {A58214 : Option Addr} {c58215 : Nat} (hs58216 : p58210.cats.length ≤ c58215 ∧ Sl (RSl (RI .i64)) M w0 A58214 p58210.cats) (r : Bool) (h : bins_Right k p58210 = some r) :
    Calls Tryz.prog 30 #[.agg #[.slice A58211 p58210.cuts.length c58212, .slice A58214 p58210.cats.length c58215]] w0 (Gives w0 fun v w' => v = .bool r) := by
  have hS := Sta.init hM
  have hS := hS.arg hs58213
  have hS := hS.arg hs58216
  unfold bins_Right at h
  refine calls_enter (n := 0) Tryz.func30 rfl [(0, .agg #[.slice A58211 p58210.cuts.length c58212, .slice A58214 p58210.cats.length c58215])] rfl rfl ⟨rfl, trivial⟩ ?_
  refine WC.seq ?_
  refine WC.reg ?_
  refine WL.box [.slice A58211 p58210.cuts.length c58212, .slice A58214 p58210.cats.length c58215] rfl rfl hS rfl ?_
  intro b59168 w hS
  refine WL.val (R_assign rfl) rfl rfl ?_
  refine WL.nil ?_
  refine WQ.thenC ?_
  obtain ⟨o59172, h59173, h59174⟩ := bindS h
  refine WC.seqM (fun env w => Fl.go () = o59172 ∧ env = [(1, .pointer (some ⟨b59168, 0, none⟩))] ∧ Sta w0 M [Blk b59168 [.slice A58211 p58210.cuts.length c58212, .slice A58214 p58210.cats.length c58215] 70] [FSl (RSl RF) A58211 c58212 p58210.cuts, FSl (RSl (RI .i64)) A58214 c58215 p58210.cats] w) ?_ ?_
  · have h := h59173
    refine WC.seq ?_
    refine WC.reg ?_
    refine WL.val (R_fieldB o70_0 rfl) rfl rfl ?_
    refine WL.val (R_load1 g62 rfl (hS.cell 0 rfl rfl)) rfl rfl ?_
    refine WL.val (R_lenS u62 rfl) rfl rfl ?_
    refine WL.val (R_fieldB o70_1 rfl) rfl rfl ?_
    refine WL.val (R_load1 g68 rfl (hS.cell 0 rfl rfl)) rfl rfl ?_
    refine WL.val (R_lenS u68 rfl) rfl rfl ?_
    refine WL.val (R_cmp rfl rfl rfl) rfl rfl ?_
    refine WL.val (R_move rfl) rfl rfl ?_
    rcases boolS h with ⟨hb59175, h⟩ | ⟨hb59175, h⟩
    · refine WL.gskip rfl rfl rfl hb59175 rfl ?_
      refine WL.gskip rfl rfl rfl hb59175 rfl ?_
      refine WL.gskip rfl rfl rfl hb59175 rfl ?_
      refine WL.gskip rfl rfl rfl hb59175 rfl ?_
      refine WL.val (R_pickTb rfl hb59175 rfl) rfl rfl ?_
      refine WL.val (R_move rfl) rfl rfl ?_
      refine WL.gskip rfl rfl rfl rfl rfl ?_
      refine WL.gskip rfl rfl rfl rfl rfl ?_
      refine WL.gskip rfl rfl rfl rfl rfl ?_
      refine WL.gskip rfl rfl rfl rfl rfl ?_
      refine WL.val (R_pickTb rfl rfl rfl) rfl rfl ?_
      refine WL.nil ?_
      refine WQ.thenC ?_
      refine WC.condT rfl ?_
      refine WC.seq ?_
      refine WC.reg ?_
      refine WL.val (R_assign rfl) rfl rfl ?_
      refine WL.nil ?_
      refine WQ.thenC ?_
      refine WC.ret ?_
      refine WQ.thenR ?_
      obtain ⟨_, hr, rfl⟩ := mapS h
      have h := hr.trans h59174
      have hS0 := hS
      obtain rfl := Option.some.inj h
      exact ret_1 rfl rfl ⟨_, rfl, hS.bel, rfl⟩
    · refine WL.gvalb rfl rfl rfl hb59175 (R_fieldB o70_0 rfl) rfl rfl ?_
      refine WL.gvalb rfl rfl rfl hb59175 (R_load1 g62 rfl (hS.cell 0 rfl rfl)) rfl rfl ?_
      refine WL.gvalb rfl rfl rfl hb59175 (R_lenS u62 rfl) rfl rfl ?_
      refine WL.gvalb rfl rfl rfl hb59175 (R_cmp rfl rfl rfl) rfl rfl ?_
      refine WL.val (R_pickFb rfl hb59175 rfl) rfl rfl ?_
      refine WL.val (R_move rfl) rfl rfl ?_
      rcases boolS h with ⟨hb59176, h⟩ | ⟨hb59176, h⟩
      · refine WL.gskip rfl rfl rfl hb59176 rfl ?_
        refine WL.gskip rfl rfl rfl hb59176 rfl ?_
        refine WL.gskip rfl rfl rfl hb59176 rfl ?_
        refine WL.gskip rfl rfl rfl hb59176 rfl ?_
        refine WL.val (R_pickTb rfl hb59176 rfl) rfl rfl ?_
        refine WL.nil ?_
        refine WQ.thenC ?_
        refine WC.condT rfl ?_
        refine WC.seq ?_
        refine WC.reg ?_
        refine WL.val (R_assign rfl) rfl rfl ?_
        refine WL.nil ?_
        refine WQ.thenC ?_
        refine WC.ret ?_
        refine WQ.thenR ?_
        obtain ⟨_, hr, rfl⟩ := mapS h
        have h := hr.trans h59174
        have hS0 := hS
        obtain rfl := Option.some.inj h
        exact ret_1 rfl rfl ⟨_, rfl, hS.bel, rfl⟩
      · refine WL.gvalb rfl rfl rfl hb59176 (R_fieldB o70_0 rfl) rfl rfl ?_
        refine WL.gvalb rfl rfl rfl hb59176 (R_load1 g62 rfl (hS.cell 0 rfl rfl)) rfl rfl ?_
        refine WL.gvalb rfl rfl rfl hb59176 (R_lenS u62 rfl) rfl rfl ?_
        refine WL.gvalb rfl rfl rfl hb59176 (R_cmp rfl rfl rfl) rfl rfl ?_
        refine WL.val (R_pickFb rfl hb59176 rfl) rfl rfl ?_
        refine WL.nil ?_
        refine WQ.thenC ?_
        refine WC.cond rfl (fun hb59177 => ?_) (fun hb59177 => ?_)
        · have h := ifT hb59177 h
          refine WC.seq ?_
          refine WC.reg ?_
          refine WL.val (R_assign rfl) rfl rfl ?_
          refine WL.nil ?_
          refine WQ.thenC ?_
          refine WC.ret ?_
          refine WQ.thenR ?_
          obtain ⟨_, hr, rfl⟩ := mapS h
          have h := hr.trans h59174
          have hS0 := hS
          obtain rfl := Option.some.inj h
          exact ret_1 rfl rfl ⟨_, rfl, hS.bel, rfl⟩
        · have h := ifF hb59177 h
          refine WC.skip ?_
          have hS := hS.pick [0] [1, 0] rfl
          exact WQ.toJ ⟨Option.some.inj h, rfl, hS⟩ ⟨rfl, trivial⟩
  · rintro _ w ⟨rfl, rfl, hS⟩
    have h := h59174
    try dsimp only at h
    obtain ⟨o59443, h59444, h59445⟩ := bindS h
    refine WC.seqM (fun env w => Fl.go () = o59443 ∧ env = [(1, .pointer (some ⟨b59168, 0, none⟩))] ∧ Sta w0 M [Blk b59168 [.slice A58211 p58210.cuts.length c58212, .slice A58214 p58210.cats.length c58215] 70] [FSl (RSl RF) A58211 c58212 p58210.cuts, FSl (RSl (RI .i64)) A58214 c58215 p58210.cats] w) ?_ ?_
    · have h := h59444
      refine WC.seq ?_
      refine WC.reg ?_
      refine WL.val (R_fieldB o70_0 rfl) rfl rfl ?_
      refine WL.val (R_load1 g62 rfl (hS.cell 0 rfl rfl)) rfl rfl ?_
      refine WL.val (R_lenS u62 rfl) rfl rfl ?_
      refine WL.val (R_move rfl) rfl rfl ?_
      refine WL.nil ?_
      refine WQ.thenC ?_
      refine WC.block ?_
      have hS := hS.pick [0] [0, 1] rfl
      refine WC.loopJ (fun m env w => ∃ (y59578 : Int), env = [(1, .pointer (some ⟨b59168, 0, none⟩)), (31, .slice A58211 p58210.cuts.length c58212), (32, .int .i64 (p58210.cuts.length : Int)), (33, .int .i64 y59578)] ∧ Sta w0 M [Blk b59168 [.slice A58211 p58210.cuts.length c58212, .slice A58214 p58210.cats.length c58215] 70] [FSl (RSl RF) A58211 c58212 p58210.cuts, FSl (RSl (RI .i64)) A58214 c58215 p58210.cats] w ∧ bins_Right_l0 k p58210 m y59578 = some o59443) k ⟨(0 : Int), rfl, hS, h⟩ ⟨rfl, rfl, rfl, rfl, trivial⟩ (fun env w hI => ?_) (fun m env w hI => ?_)
      · obtain ⟨y59578, rfl, hS, h⟩ := hI
        rw [bins_Right_l0] at h
        cases h
      · obtain ⟨y59578, rfl, hS, h⟩ := hI
        rw [bins_Right_l0] at h
        refine WC.seq ?_
        refine WC.reg ?_
        refine WL.val (R_cmp rfl rfl rfl) rfl rfl ?_
        refine WL.nil ?_
        refine WQ.thenC ?_
        refine WC.seq ?_
        refine WC.cond rfl (fun hb59711 => ?_) (fun hb59711 => ?_)
        · have h := ifT hb59711 h
          refine WC.skip ?_
          refine WQ.thenC ?_
          obtain ⟨o59776, h59777, h59778⟩ := bindS h
          refine WC.seqM (fun env w => Fl.go () = o59776 ∧ env = [(1, .pointer (some ⟨b59168, 0, none⟩)), (31, .slice A58211 p58210.cuts.length c58212), (32, .int .i64 (p58210.cuts.length : Int)), (33, .int .i64 y59578)] ∧ Sta w0 M [Blk b59168 [.slice A58211 p58210.cuts.length c58212, .slice A58214 p58210.cats.length c58215] 70] [FSl (RSl RF) A58211 c58212 p58210.cuts, FSl (RSl (RI .i64)) A58214 c58215 p58210.cats] w) ?_ ?_
          · have h := h59777
            refine WC.block ?_
            refine WC.seq ?_
            refine WC.reg ?_
            obtain ⟨x59779, hx59780, h⟩ := bindS h
            obtain ⟨ad59781, cs59782, hA59783, hq59784, hK59785, hc59786⟩ := hS.sget 0 rfl (rdS hx59780).2.2
            obtain ⟨A59787, c59788, rfl, hs59789⟩ := hK59785
            have hS := hS.addF (FSl RF A59787 c59788 x59779) hs59789
            refine WL.val (R_indexAddr u62 z65 rfl rfl hA59783 (rdS hx59780).1 hq59784) rfl rfl ?_
            refine WL.val (R_load1 g65 rfl (hc59786 0 _ rfl)) rfl rfl ?_
            refine WL.val (R_assign rfl) rfl rfl ?_
            refine WL.nil ?_
            refine WQ.thenC ?_
            refine WC.seq ?_
            refine WC.reg ?_
            refine WL.val (R_move rfl) rfl rfl ?_
            refine WL.val (R_lenS u65 rfl) rfl rfl ?_
            refine WL.val (R_move rfl) rfl rfl ?_
            refine WL.nil ?_
            refine WQ.thenC ?_
            refine WC.block ?_
            have hS := hS.pick [0] [0, 1, 2] rfl
            refine WC.loopJ (fun m env w => ∃ (y59804 : Int), env = [(1, .pointer (some ⟨b59168, 0, none⟩)), (4, .slice A59787 x59779.length c59788), (31, .slice A58211 p58210.cuts.length c58212), (32, .int .i64 (p58210.cuts.length : Int)), (33, .int .i64 y59578), (37, .slice A59787 x59779.length c59788), (38, .int .i64 (x59779.length : Int)), (39, .int .i64 y59804)] ∧ Sta w0 M [Blk b59168 [.slice A58211 p58210.cuts.length c58212, .slice A58214 p58210.cats.length c58215] 70] [FSl RF A59787 c59788 x59779, FSl (RSl RF) A58211 c58212 p58210.cuts, FSl (RSl (RI .i64)) A58214 c58215 p58210.cats] w ∧ bins_Right_l1 k x59779 m y59804 = some o59776) k ⟨(0 : Int), rfl, hS, h⟩ ⟨rfl, rfl, rfl, rfl, rfl, rfl, rfl, rfl, trivial⟩ (fun env w hI => ?_) (fun m env w hI => ?_)
            · obtain ⟨y59804, rfl, hS, h⟩ := hI
              rw [bins_Right_l1] at h
              cases h
            · obtain ⟨y59804, rfl, hS, h⟩ := hI
              rw [bins_Right_l1] at h
              refine WC.seq ?_
              refine WC.reg ?_
              refine WL.val (R_cmp rfl rfl rfl) rfl rfl ?_
              refine WL.nil ?_
              refine WQ.thenC ?_
              refine WC.seq ?_
              refine WC.cond rfl (fun hb59843 => ?_) (fun hb59843 => ?_)
              · have h := ifT hb59843 h
                refine WC.skip ?_
                refine WQ.thenC ?_
                refine WC.seq ?_
                refine WC.block ?_
                refine WC.seq ?_
                refine WC.reg ?_
                refine WL.val (R_move rfl) rfl rfl ?_
                obtain ⟨x59844, hx59845, h⟩ := bindS h
                obtain ⟨ad59846, cs59847, hA59848, hq59849, hK59850, hc59851⟩ := hS.sget 0 rfl (rdS hx59845).2.2
                obtain rfl := hK59850
                refine WL.val (R_indexAddr u65 z54 rfl rfl hA59848 (rdS hx59845).1 hq59849) rfl rfl ?_
                refine WL.val (R_load1 g54 rfl (hc59851 0 _ rfl)) rfl rfl ?_
                refine WL.val (R_assign rfl) rfl rfl ?_
                refine WL.val (R_assign rfl) rfl rfl ?_
                refine WL.nil ?_
                refine WQ.thenC ?_
                refine WC.seq ?_
                refine WC.reg ?_
                refine WL.val (R_move rfl) rfl rfl ?_
                refine WL.val (R_move rfl) rfl rfl ?_
                refine WL.val (R_cmpF rfl rfl rfl) rfl rfl ?_
                refine WL.val (R_move rfl) rfl rfl ?_
                rcases boolS h with ⟨hb59852, h⟩ | ⟨hb59852, h⟩
                · refine WL.gskip rfl rfl rfl hb59852 rfl ?_
                  refine WL.gskip rfl rfl rfl hb59852 rfl ?_
                  refine WL.gskip rfl rfl rfl hb59852 rfl ?_
                  refine WL.gskipU rfl rfl rfl rfl ?_
                  refine WL.gskipU rfl rfl rfl rfl ?_
                  refine WL.gskip rfl rfl rfl hb59852 rfl ?_
                  refine WL.val (R_pickTb rfl hb59852 rfl) rfl rfl ?_
                  refine WL.val (R_move rfl) rfl rfl ?_
                  refine WL.gskip rfl rfl rfl rfl rfl ?_
                  refine WL.gskip rfl rfl rfl rfl rfl ?_
                  refine WL.gskip rfl rfl rfl rfl rfl ?_
                  refine WL.gskipU rfl rfl rfl rfl ?_
                  refine WL.gskipU rfl rfl rfl rfl ?_
                  refine WL.gskipU rfl rfl rfl rfl ?_
                  refine WL.gskipU rfl rfl rfl rfl ?_
                  refine WL.gskipU rfl rfl rfl rfl ?_
                  refine WL.gskipU rfl rfl rfl rfl ?_
                  refine WL.gskipU rfl rfl rfl rfl ?_
                  refine WL.gskipU rfl rfl rfl rfl ?_
                  refine WL.gskip rfl rfl rfl rfl rfl ?_
                  refine WL.val (R_pickTb rfl rfl rfl) rfl rfl ?_
                  refine WL.nil ?_
                  refine WQ.thenC ?_
                  refine WC.condT rfl ?_
                  refine WC.seq ?_
                  refine WC.reg ?_
                  refine WL.val (R_assign rfl) rfl rfl ?_
                  refine WL.nil ?_
                  refine WQ.thenC ?_
                  refine WC.ret ?_
                  refine WQ.blockR ?_
                  refine WQ.thenR ?_
                  refine WQ.thenR ?_
                  refine WQ.blockR ?_
                  refine WQ.blockR ?_
                  refine WQ.thenR ?_
                  obtain ⟨_, hr, rfl⟩ := mapS h
                  have h := hr.trans h59778
                  refine WQ.thenR ?_
                  refine WQ.blockR ?_
                  refine WQ.thenR ?_
                  obtain ⟨_, hr, rfl⟩ := mapS h
                  have h := hr.trans h59445
                  have hS0 := hS
                  obtain rfl := Option.some.inj h
                  exact ret_1 rfl rfl ⟨_, rfl, hS.bel, rfl⟩
                · refine WL.gvalb rfl rfl rfl hb59852 (R_move rfl) rfl rfl ?_
                  refine WL.gvalb rfl rfl rfl hb59852 (R_cmpF rfl rfl rfl) rfl rfl ?_
                  refine WL.gvalb rfl rfl rfl hb59852 (R_move rfl) rfl rfl ?_
                  rcases boolS h with ⟨hb59853, h⟩ | ⟨hb59853, h⟩
                  · refine WL.gvalb rfl rfl rfl hb59853 (R_move rfl) rfl rfl ?_
                    obtain ⟨r59854, hr59855, h⟩ := bindS h
                    refine WL.gcallb rfl rfl rfl hb59853 e81 rfl rfl hS (math_Signbit_ok (hS).mx_lt x59844  _ hr59855) rfl ?_
                    intro v w hB hS hP
                    obtain ⟨rfl⟩ := hP
                    refine WL.gvalb rfl rfl rfl hb59852 (R_pickTb rfl hb59853 rfl) rfl rfl ?_
                    refine WL.val (R_pickFb rfl hb59852 rfl) rfl rfl ?_
                    refine WL.val (R_move rfl) rfl rfl ?_
                    rcases boolS h with ⟨hb59856, h⟩ | ⟨hb59856, h⟩
                    · refine WL.gskip rfl rfl rfl hb59856 rfl ?_
                      refine WL.gskip rfl rfl rfl hb59856 rfl ?_
                      refine WL.gskip rfl rfl rfl hb59856 rfl ?_
                      refine WL.gskipU rfl rfl rfl rfl ?_
                      refine WL.gskipU rfl rfl rfl rfl ?_
                      refine WL.gskipU rfl rfl rfl rfl ?_
                      refine WL.gskipU rfl rfl rfl rfl ?_
                      refine WL.gskipU rfl rfl rfl rfl ?_
                      refine WL.gskipU rfl rfl rfl rfl ?_
                      refine WL.gskipU rfl rfl rfl rfl ?_
                      refine WL.gskipU rfl rfl rfl rfl ?_
                      refine WL.gskip rfl rfl rfl hb59856 rfl ?_
                      refine WL.val (R_pickTb rfl hb59856 rfl) rfl rfl ?_
                      refine WL.nil ?_
                      refine WQ.thenC ?_
                      refine WC.condT rfl ?_
                      refine WC.seq ?_
                      refine WC.reg ?_
                      refine WL.val (R_assign rfl) rfl rfl ?_
                      refine WL.nil ?_
                      refine WQ.thenC ?_
                      refine WC.ret ?_
                      refine WQ.blockR ?_
                      refine WQ.thenR ?_
                      refine WQ.thenR ?_
                      refine WQ.blockR ?_
                      refine WQ.blockR ?_
                      refine WQ.thenR ?_
                      obtain ⟨_, hr, rfl⟩ := mapS h
                      have h := hr.trans h59778
                      refine WQ.thenR ?_
                      refine WQ.blockR ?_
                      refine WQ.thenR ?_
                      obtain ⟨_, hr, rfl⟩ := mapS h
                      have h := hr.trans h59445
                      have hS0 := hS
                      obtain rfl := Option.some.inj h
                      exact ret_1 rfl rfl ⟨_, rfl, hS.bel, rfl⟩
                    · refine WL.gvalb rfl rfl rfl hb59856 (R_move rfl) rfl rfl ?_
                      refine WL.gvalb rfl rfl rfl hb59856 (R_cmp rfl rfl rfl) rfl rfl ?_
                      refine WL.gvalb rfl rfl rfl hb59856 (R_move rfl) rfl rfl ?_
                      rcases boolS h with ⟨hb59857, h⟩ | ⟨hb59857, h⟩
                      · refine WL.gvalb rfl rfl rfl hb59857 (R_move rfl) rfl rfl ?_
                        refine WL.gvalb rfl rfl rfl hb59857 (R_move rfl) rfl rfl ?_
                        refine WL.gvalb rfl rfl rfl hb59857 (R_ar rfl rfl rfl) rfl rfl ?_
                        obtain ⟨x59858, hx59859, h⟩ := bindS h
                        obtain ⟨ad59860, cs59861, hA59862, hq59863, hK59864, hc59865⟩ := hS.sget 0 rfl (rdS hx59859).2.2
                        obtain rfl := hK59864
                        refine WL.gvalb rfl rfl rfl hb59857 (R_indexAddr u65 z54 rfl rfl hA59862 (rdS hx59859).1 hq59863) rfl rfl ?_
                        refine WL.gvalb rfl rfl rfl hb59857 (R_load1 g54 rfl (hc59865 0 _ rfl)) rfl rfl ?_
                        refine WL.gvalb rfl rfl rfl hb59857 (R_move rfl) rfl rfl ?_
                        obtain ⟨r59866, hr59867, h⟩ := bindS h
                        refine WL.gcallb rfl rfl rfl hb59857 e82 rfl rfl hS (order_Compare_ok (hS).mx_lt x59858 x59844  _ hr59867) rfl ?_
                        intro v w hB hS hP
                        obtain ⟨rfl⟩ := hP
                        refine WL.gvalb rfl rfl rfl hb59857 (R_cmp rfl rfl rfl) rfl rfl ?_
                        refine WL.gvalb rfl rfl rfl hb59856 (R_pickTb rfl hb59857 rfl) rfl rfl ?_
                        refine WL.val (R_pickFb rfl hb59856 rfl) rfl rfl ?_
                        refine WL.nil ?_
                        refine WQ.thenC ?_
                        refine WC.cond rfl (fun hb59868 => ?_) (fun hb59868 => ?_)
                        · have h := ifT hb59868 h
                          refine WC.seq ?_
                          refine WC.reg ?_
                          refine WL.val (R_assign rfl) rfl rfl ?_
                          refine WL.nil ?_
                          refine WQ.thenC ?_
                          refine WC.ret ?_
                          refine WQ.blockR ?_
                          refine WQ.thenR ?_
                          refine WQ.thenR ?_
                          refine WQ.blockR ?_
                          refine WQ.blockR ?_
                          refine WQ.thenR ?_
                          obtain ⟨_, hr, rfl⟩ := mapS h
                          have h := hr.trans h59778
                          refine WQ.thenR ?_
                          refine WQ.blockR ?_
                          refine WQ.thenR ?_
                          obtain ⟨_, hr, rfl⟩ := mapS h
                          have h := hr.trans h59445
                          have hS0 := hS
                          obtain rfl := Option.some.inj h
                          exact ret_1 rfl rfl ⟨_, rfl, hS.bel, rfl⟩
                        · have h := ifF hb59868 h
                          refine WC.skip ?_
                          refine WQ.blockN ?_
                          refine WQ.thenC ?_
                          refine WC.reg ?_
                          refine WL.val (R_ar rfl rfl rfl) rfl rfl ?_
                          refine WL.val (R_move rfl) rfl rfl ?_
                          refine WL.nil ?_
                          have hS := hS.pick [0] [0, 1, 2] rfl
                          exact WQ.toJ ⟨(IntKind.i64.wrap (y59804 + (1 : Int))), rfl, hS, h⟩ ⟨rfl, rfl, rfl, rfl, rfl, rfl, rfl, rfl, trivial⟩
                      · refine WL.gskip rfl rfl rfl hb59857 rfl ?_
                        refine WL.gskip rfl rfl rfl hb59857 rfl ?_
                        refine WL.gskip rfl rfl rfl hb59857 rfl ?_
                        refine WL.gskip rfl rfl rfl hb59857 rfl ?_
                        refine WL.gskip rfl rfl rfl hb59857 rfl ?_
                        refine WL.gskip rfl rfl rfl hb59857 rfl ?_
                        refine WL.gskip rfl rfl rfl hb59857 rfl ?_
                        refine WL.gskip rfl rfl rfl hb59857 rfl ?_
                        refine WL.gvalb rfl rfl rfl hb59856 (R_pickFb rfl hb59857 rfl) rfl rfl ?_
                        refine WL.val (R_pickFb rfl hb59856 rfl) rfl rfl ?_
                        refine WL.nil ?_
                        refine WQ.thenC ?_
                        refine WC.condF rfl ?_
                        refine WC.skip ?_
                        refine WQ.blockN ?_
                        refine WQ.thenC ?_
                        refine WC.reg ?_
                        refine WL.val (R_ar rfl rfl rfl) rfl rfl ?_
                        refine WL.val (R_move rfl) rfl rfl ?_
                        refine WL.nil ?_
                        have hS := hS.pick [0] [0, 1, 2] rfl
                        exact WQ.toJ ⟨(IntKind.i64.wrap (y59804 + (1 : Int))), rfl, hS, h⟩ ⟨rfl, rfl, rfl, rfl, rfl, rfl, rfl, rfl, trivial⟩
                  · refine WL.gskip rfl rfl rfl hb59853 rfl ?_
                    refine WL.gskip rfl rfl rfl hb59853 rfl ?_
                    refine WL.gvalb rfl rfl rfl hb59852 (R_pickFb rfl hb59853 rfl) rfl rfl ?_
                    refine WL.val (R_pickFb rfl hb59852 rfl) rfl rfl ?_
                    refine WL.val (R_move rfl) rfl rfl ?_
                    refine WL.gvalb rfl rfl rfl rfl (R_move rfl) rfl rfl ?_
                    refine WL.gvalb rfl rfl rfl rfl (R_cmp rfl rfl rfl) rfl rfl ?_
                    refine WL.gvalb rfl rfl rfl rfl (R_move rfl) rfl rfl ?_
                    rcases boolS h with ⟨hb59869, h⟩ | ⟨hb59869, h⟩
                    · refine WL.gvalb rfl rfl rfl hb59869 (R_move rfl) rfl rfl ?_
                      refine WL.gvalb rfl rfl rfl hb59869 (R_move rfl) rfl rfl ?_
                      refine WL.gvalb rfl rfl rfl hb59869 (R_ar rfl rfl rfl) rfl rfl ?_
                      obtain ⟨x59870, hx59871, h⟩ := bindS h
                      obtain ⟨ad59872, cs59873, hA59874, hq59875, hK59876, hc59877⟩ := hS.sget 0 rfl (rdS hx59871).2.2
                      obtain rfl := hK59876
                      refine WL.gvalb rfl rfl rfl hb59869 (R_indexAddr u65 z54 rfl rfl hA59874 (rdS hx59871).1 hq59875) rfl rfl ?_
                      refine WL.gvalb rfl rfl rfl hb59869 (R_load1 g54 rfl (hc59877 0 _ rfl)) rfl rfl ?_
                      refine WL.gvalb rfl rfl rfl hb59869 (R_move rfl) rfl rfl ?_
                      obtain ⟨r59878, hr59879, h⟩ := bindS h
                      refine WL.gcallb rfl rfl rfl hb59869 e82 rfl rfl hS (order_Compare_ok (hS).mx_lt x59870 x59844  _ hr59879) rfl ?_
                      intro v w hB hS hP
                      obtain ⟨rfl⟩ := hP
                      refine WL.gvalb rfl rfl rfl hb59869 (R_cmp rfl rfl rfl) rfl rfl ?_
                      refine WL.gvalb rfl rfl rfl rfl (R_pickTb rfl hb59869 rfl) rfl rfl ?_
                      refine WL.val (R_pickFb rfl rfl rfl) rfl rfl ?_
                      refine WL.nil ?_
                      refine WQ.thenC ?_
                      refine WC.cond rfl (fun hb59880 => ?_) (fun hb59880 => ?_)
                      · have h := ifT hb59880 h
                        refine WC.seq ?_
                        refine WC.reg ?_
                        refine WL.val (R_assign rfl) rfl rfl ?_
                        refine WL.nil ?_
                        refine WQ.thenC ?_
                        refine WC.ret ?_
                        refine WQ.blockR ?_
                        refine WQ.thenR ?_
                        refine WQ.thenR ?_
                        refine WQ.blockR ?_
                        refine WQ.blockR ?_
                        refine WQ.thenR ?_
                        obtain ⟨_, hr, rfl⟩ := mapS h
                        have h := hr.trans h59778
                        refine WQ.thenR ?_
                        refine WQ.blockR ?_
                        refine WQ.thenR ?_
                        obtain ⟨_, hr, rfl⟩ := mapS h
                        have h := hr.trans h59445
                        have hS0 := hS
                        obtain rfl := Option.some.inj h
                        exact ret_1 rfl rfl ⟨_, rfl, hS.bel, rfl⟩
                      · have h := ifF hb59880 h
                        refine WC.skip ?_
                        refine WQ.blockN ?_
                        refine WQ.thenC ?_
                        refine WC.reg ?_
                        refine WL.val (R_ar rfl rfl rfl) rfl rfl ?_
                        refine WL.val (R_move rfl) rfl rfl ?_
                        refine WL.nil ?_
                        have hS := hS.pick [0] [0, 1, 2] rfl
                        exact WQ.toJ ⟨(IntKind.i64.wrap (y59804 + (1 : Int))), rfl, hS, h⟩ ⟨rfl, rfl, rfl, rfl, rfl, rfl, rfl, rfl, trivial⟩
                    · refine WL.gskip rfl rfl rfl hb59869 rfl ?_
                      refine WL.gskip rfl rfl rfl hb59869 rfl ?_
                      refine WL.gskip rfl rfl rfl hb59869 rfl ?_
                      refine WL.gskip rfl rfl rfl hb59869 rfl ?_
                      refine WL.gskip rfl rfl rfl hb59869 rfl ?_
                      refine WL.gskip rfl rfl rfl hb59869 rfl ?_
                      refine WL.gskip rfl rfl rfl hb59869 rfl ?_
                      refine WL.gskip rfl rfl rfl hb59869 rfl ?_
                      refine WL.gvalb rfl rfl rfl rfl (R_pickFb rfl hb59869 rfl) rfl rfl ?_
                      refine WL.val (R_pickFb rfl rfl rfl) rfl rfl ?_
                      refine WL.nil ?_
                      refine WQ.thenC ?_
                      refine WC.condF rfl ?_
                      refine WC.skip ?_
                      refine WQ.blockN ?_
                      refine WQ.thenC ?_
                      refine WC.reg ?_
                      refine WL.val (R_ar rfl rfl rfl) rfl rfl ?_
                      refine WL.val (R_move rfl) rfl rfl ?_
                      refine WL.nil ?_
                      have hS := hS.pick [0] [0, 1, 2] rfl
                      exact WQ.toJ ⟨(IntKind.i64.wrap (y59804 + (1 : Int))), rfl, hS, h⟩ ⟨rfl, rfl, rfl, rfl, rfl, rfl, rfl, rfl, trivial⟩
              · have h := ifF hb59843 h
                refine WC.exit ?_
                refine WQ.thenE ?_
                refine WQ.thenE ?_
                refine WQ.blockE ?_
                refine WQ.blockN ?_
                have hS := hS.pick [0] [1, 2] rfl
                exact WQ.toJ ⟨Option.some.inj h, rfl, hS⟩ ⟨rfl, rfl, rfl, rfl, trivial⟩
          · rintro _ w ⟨rfl, rfl, hS⟩
            have h := h59778
            try dsimp only at h
            refine WC.reg ?_
            refine WL.val (R_ar rfl rfl rfl) rfl rfl ?_
            refine WL.val (R_move rfl) rfl rfl ?_
            refine WL.nil ?_
            have hS := hS.pick [0] [0, 1] rfl
            exact WQ.toJ ⟨(IntKind.i64.wrap (y59578 + (1 : Int))), rfl, hS, h⟩ ⟨rfl, rfl, rfl, rfl, trivial⟩
        · have h := ifF hb59711 h
          refine WC.exit ?_
          refine WQ.thenE ?_
          refine WQ.thenE ?_
          refine WQ.blockE ?_
          have hS := hS.pick [0] [0, 1] rfl
          exact WQ.toJ ⟨Option.some.inj h, rfl, hS⟩ ⟨rfl, trivial⟩
    · rintro _ w ⟨rfl, rfl, hS⟩
      have h := h59445
      try dsimp only at h
      obtain ⟨o60066, h60067, h60068⟩ := bindS h
      refine WC.seqM (fun env w => Fl.go () = o60066 ∧ env = [] ∧ Sta w0 M [] [] w) ?_ ?_
      · have h := h60067
        refine WC.seq ?_
        refine WC.reg ?_
        refine WL.val (R_fieldB o70_1 rfl) rfl rfl ?_
        refine WL.val (R_load1 g68 rfl (hS.cell 0 rfl rfl)) rfl rfl ?_
        refine WL.val (R_lenS u68 rfl) rfl rfl ?_
        refine WL.val (R_move rfl) rfl rfl ?_
        refine WL.nil ?_
        refine WQ.thenC ?_
        refine WC.block ?_
        have hS := hS.pick [] [1] rfl
        refine WC.loopJ (fun m env w => ∃ (y60161 : Int), env = [(72, .slice A58214 p58210.cats.length c58215), (73, .int .i64 (p58210.cats.length : Int)), (74, .int .i64 y60161)] ∧ Sta w0 M [] [FSl (RSl (RI .i64)) A58214 c58215 p58210.cats] w ∧ bins_Right_l2 k p58210 m y60161 = some o60066) k ⟨(0 : Int), rfl, hS, h⟩ ⟨rfl, rfl, rfl, trivial⟩ (fun env w hI => ?_) (fun m env w hI => ?_)
        · obtain ⟨y60161, rfl, hS, h⟩ := hI
          rw [bins_Right_l2] at h
          cases h
        · obtain ⟨y60161, rfl, hS, h⟩ := hI
          rw [bins_Right_l2] at h
          refine WC.seq ?_
          refine WC.reg ?_
          refine WL.val (R_cmp rfl rfl rfl) rfl rfl ?_
          refine WL.nil ?_
          refine WQ.thenC ?_
          refine WC.seq ?_
          refine WC.cond rfl (fun hb60254 => ?_) (fun hb60254 => ?_)
          · have h := ifT hb60254 h
            refine WC.skip ?_
            refine WQ.thenC ?_
            obtain ⟨o60299, h60300, h60301⟩ := bindS h
            refine WC.seqM (fun env w => Fl.go () = o60299 ∧ env = [(72, .slice A58214 p58210.cats.length c58215), (73, .int .i64 (p58210.cats.length : Int)), (74, .int .i64 y60161)] ∧ Sta w0 M [] [FSl (RSl (RI .i64)) A58214 c58215 p58210.cats] w) ?_ ?_
            · have h := h60300
              refine WC.block ?_
              refine WC.seq ?_
              refine WC.reg ?_
              obtain ⟨x60302, hx60303, h⟩ := bindS h
              obtain ⟨ad60304, cs60305, hA60306, hq60307, hK60308, hc60309⟩ := hS.sget 0 rfl (rdS hx60303).2.2
              obtain ⟨A60310, c60311, rfl, hs60312⟩ := hK60308
              have hS := hS.addF (FSl (RI .i64) A60310 c60311 x60302) hs60312
              refine WL.val (R_indexAddr u68 z55 rfl rfl hA60306 (rdS hx60303).1 hq60307) rfl rfl ?_
              refine WL.val (R_load1 g55 rfl (hc60309 0 _ rfl)) rfl rfl ?_
              refine WL.val (R_assign rfl) rfl rfl ?_
              refine WL.nil ?_
              refine WQ.thenC ?_
              refine WC.seq ?_
              refine WC.reg ?_
              refine WL.val (R_move rfl) rfl rfl ?_
              refine WL.val (R_lenS u55 rfl) rfl rfl ?_
              refine WL.val (R_move rfl) rfl rfl ?_
              refine WL.nil ?_
              refine WQ.thenC ?_
              refine WC.block ?_
              have hS := hS.pick [] [0, 1] rfl
              refine WC.loopJ (fun m env w => ∃ (y60324 : Int), env = [(8, .slice A60310 x60302.length c60311), (72, .slice A58214 p58210.cats.length c58215), (73, .int .i64 (p58210.cats.length : Int)), (74, .int .i64 y60161), (78, .slice A60310 x60302.length c60311), (79, .int .i64 (x60302.length : Int)), (80, .int .i64 y60324)] ∧ Sta w0 M [] [FSl (RI .i64) A60310 c60311 x60302, FSl (RSl (RI .i64)) A58214 c58215 p58210.cats] w ∧ bins_Right_l3 k x60302 m y60324 = some o60299) k ⟨(0 : Int), rfl, hS, h⟩ ⟨rfl, rfl, rfl, rfl, rfl, rfl, rfl, trivial⟩ (fun env w hI => ?_) (fun m env w hI => ?_)
              · obtain ⟨y60324, rfl, hS, h⟩ := hI
                rw [bins_Right_l3] at h
                cases h
              · obtain ⟨y60324, rfl, hS, h⟩ := hI
                rw [bins_Right_l3] at h
                refine WC.seq ?_
                refine WC.reg ?_
                refine WL.val (R_cmp rfl rfl rfl) rfl rfl ?_
                refine WL.nil ?_
                refine WQ.thenC ?_
                refine WC.seq ?_
                refine WC.cond rfl (fun hb60346 => ?_) (fun hb60346 => ?_)
                · have h := ifT hb60346 h
                  refine WC.skip ?_
                  refine WQ.thenC ?_
                  refine WC.seq ?_
                  refine WC.block ?_
                  refine WC.seq ?_
                  refine WC.reg ?_
                  refine WL.val (R_move rfl) rfl rfl ?_
                  obtain ⟨x60347, hx60348, h⟩ := bindS h
                  obtain ⟨ad60349, cs60350, hA60351, hq60352, hK60353, hc60354⟩ := hS.sget 0 rfl (rdS hx60348).2.2
                  obtain rfl := hK60353
                  refine WL.val (R_indexAddr u55 z3 rfl rfl hA60351 (rdS hx60348).1 hq60352) rfl rfl ?_
                  refine WL.val (R_load1 g3 rfl (hc60354 0 _ rfl)) rfl rfl ?_
                  refine WL.val (R_assign rfl) rfl rfl ?_
                  refine WL.val (R_assign rfl) rfl rfl ?_
                  refine WL.nil ?_
                  refine WQ.thenC ?_
                  refine WC.seq ?_
                  refine WC.reg ?_
                  refine WL.val (R_move rfl) rfl rfl ?_
                  refine WL.val (R_cmp rfl rfl rfl) rfl rfl ?_
                  refine WL.val (R_move rfl) rfl rfl ?_
                  rcases boolS h with ⟨hb60355, h⟩ | ⟨hb60355, h⟩
                  · refine WL.gskip rfl rfl rfl hb60355 rfl ?_
                    refine WL.gskip rfl rfl rfl hb60355 rfl ?_
                    refine WL.val (R_pickTb rfl hb60355 rfl) rfl rfl ?_
                    refine WL.val (R_move rfl) rfl rfl ?_
                    refine WL.gskip rfl rfl rfl rfl rfl ?_
                    refine WL.gskip rfl rfl rfl rfl rfl ?_
                    refine WL.gskip rfl rfl rfl rfl rfl ?_
                    refine WL.gskipU rfl rfl rfl rfl ?_
                    refine WL.gskipU rfl rfl rfl rfl ?_
                    refine WL.gskipU rfl rfl rfl rfl ?_
                    refine WL.gskipU rfl rfl rfl rfl ?_
                    refine WL.gskipU rfl rfl rfl rfl ?_
                    refine WL.gskipU rfl rfl rfl rfl ?_
                    refine WL.gskipU rfl rfl rfl rfl ?_
                    refine WL.gskip rfl rfl rfl rfl rfl ?_
                    refine WL.val (R_pickTb rfl rfl rfl) rfl rfl ?_
                    refine WL.nil ?_
                    refine WQ.thenC ?_
                    refine WC.condT rfl ?_
                    refine WC.seq ?_
                    refine WC.reg ?_
                    refine WL.val (R_assign rfl) rfl rfl ?_
                    refine WL.nil ?_
                    refine WQ.thenC ?_
                    refine WC.ret ?_
                    refine WQ.blockR ?_
                    refine WQ.thenR ?_
                    refine WQ.thenR ?_
                    refine WQ.blockR ?_
                    refine WQ.blockR ?_
                    refine WQ.thenR ?_
                    obtain ⟨_, hr, rfl⟩ := mapS h
                    have h := hr.trans h60301
                    refine WQ.thenR ?_
                    refine WQ.blockR ?_
                    refine WQ.thenR ?_
                    obtain ⟨_, hr, rfl⟩ := mapS h
                    have h := hr.trans h60068
                    have hS0 := hS
                    obtain rfl := Option.some.inj h
                    exact ret_1 rfl rfl ⟨_, rfl, hS.bel, rfl⟩
                  · refine WL.gvalb rfl rfl rfl hb60355 (R_move rfl) rfl rfl ?_
                    refine WL.gvalb rfl rfl rfl hb60355 (R_cmp rfl rfl rfl) rfl rfl ?_
                    refine WL.val (R_pickFb rfl hb60355 rfl) rfl rfl ?_
                    refine WL.val (R_move rfl) rfl rfl ?_
                    rcases boolS h with ⟨hb60356, h⟩ | ⟨hb60356, h⟩
                    · refine WL.gskip rfl rfl rfl hb60356 rfl ?_
                      refine WL.gskip rfl rfl rfl hb60356 rfl ?_
                      refine WL.gskip rfl rfl rfl hb60356 rfl ?_
                      refine WL.gskipU rfl rfl rfl rfl ?_
                      refine WL.gskipU rfl rfl rfl rfl ?_
                      refine WL.gskipU rfl rfl rfl rfl ?_
                      refine WL.gskipU rfl rfl rfl rfl ?_
                      refine WL.gskipU rfl rfl rfl rfl ?_
                      refine WL.gskipU rfl rfl rfl rfl ?_
                      refine WL.gskipU rfl rfl rfl rfl ?_
                      refine WL.gskip rfl rfl rfl hb60356 rfl ?_
                      refine WL.val (R_pickTb rfl hb60356 rfl) rfl rfl ?_
                      refine WL.nil ?_
                      refine WQ.thenC ?_
                      refine WC.condT rfl ?_
                      refine WC.seq ?_
                      refine WC.reg ?_
                      refine WL.val (R_assign rfl) rfl rfl ?_
                      refine WL.nil ?_
                      refine WQ.thenC ?_
                      refine WC.ret ?_
                      refine WQ.blockR ?_
                      refine WQ.thenR ?_
                      refine WQ.thenR ?_
                      refine WQ.blockR ?_
                      refine WQ.blockR ?_
                      refine WQ.thenR ?_
                      obtain ⟨_, hr, rfl⟩ := mapS h
                      have h := hr.trans h60301
                      refine WQ.thenR ?_
                      refine WQ.blockR ?_
                      refine WQ.thenR ?_
                      obtain ⟨_, hr, rfl⟩ := mapS h
                      have h := hr.trans h60068
                      have hS0 := hS
                      obtain rfl := Option.some.inj h
                      exact ret_1 rfl rfl ⟨_, rfl, hS.bel, rfl⟩
                    · refine WL.gvalb rfl rfl rfl hb60356 (R_move rfl) rfl rfl ?_
                      refine WL.gvalb rfl rfl rfl hb60356 (R_cmp rfl rfl rfl) rfl rfl ?_
                      refine WL.gvalb rfl rfl rfl hb60356 (R_move rfl) rfl rfl ?_
                      rcases boolS h with ⟨hb60357, h⟩ | ⟨hb60357, h⟩
                      · refine WL.gvalb rfl rfl rfl hb60357 (R_move rfl) rfl rfl ?_
                        refine WL.gvalb rfl rfl rfl hb60357 (R_move rfl) rfl rfl ?_
                        refine WL.gvalb rfl rfl rfl hb60357 (R_move rfl) rfl rfl ?_
                        refine WL.gvalb rfl rfl rfl hb60357 (R_ar rfl rfl rfl) rfl rfl ?_
                        obtain ⟨x60358, hx60359, h⟩ := bindS h
                        obtain ⟨ad60360, cs60361, hA60362, hq60363, hK60364, hc60365⟩ := hS.sget 0 rfl (rdS hx60359).2.2
                        obtain rfl := hK60364
                        refine WL.gvalb rfl rfl rfl hb60357 (R_indexAddr u55 z3 rfl rfl hA60362 (rdS hx60359).1 hq60363) rfl rfl ?_
                        refine WL.gvalb rfl rfl rfl hb60357 (R_load1 g3 rfl (hc60365 0 _ rfl)) rfl rfl ?_
                        refine WL.gvalb rfl rfl rfl hb60357 (R_cmp rfl rfl rfl) rfl rfl ?_
                        refine WL.gvalb rfl rfl rfl hb60356 (R_pickTb rfl hb60357 rfl) rfl rfl ?_
                        refine WL.val (R_pickFb rfl hb60356 rfl) rfl rfl ?_
                        refine WL.nil ?_
                        refine WQ.thenC ?_
                        refine WC.cond rfl (fun hb60366 => ?_) (fun hb60366 => ?_)
                        · have h := ifT hb60366 h
                          refine WC.seq ?_
                          refine WC.reg ?_
                          refine WL.val (R_assign rfl) rfl rfl ?_
                          refine WL.nil ?_
                          refine WQ.thenC ?_
                          refine WC.ret ?_
                          refine WQ.blockR ?_
                          refine WQ.thenR ?_
                          refine WQ.thenR ?_
                          refine WQ.blockR ?_
                          refine WQ.blockR ?_
                          refine WQ.thenR ?_
                          obtain ⟨_, hr, rfl⟩ := mapS h
                          have h := hr.trans h60301
                          refine WQ.thenR ?_
                          refine WQ.blockR ?_
                          refine WQ.thenR ?_
                          obtain ⟨_, hr, rfl⟩ := mapS h
                          have h := hr.trans h60068
                          have hS0 := hS
                          obtain rfl := Option.some.inj h
                          exact ret_1 rfl rfl ⟨_, rfl, hS.bel, rfl⟩
                        · have h := ifF hb60366 h
                          refine WC.skip ?_
                          refine WQ.blockN ?_
                          refine WQ.thenC ?_
                          refine WC.reg ?_
                          refine WL.val (R_ar rfl rfl rfl) rfl rfl ?_
                          refine WL.val (R_move rfl) rfl rfl ?_
                          refine WL.nil ?_
                          have hS := hS.pick [] [0, 1] rfl
                          exact WQ.toJ ⟨(IntKind.i64.wrap (y60324 + (1 : Int))), rfl, hS, h⟩ ⟨rfl, rfl, rfl, rfl, rfl, rfl, rfl, trivial⟩
                      · refine WL.gskip rfl rfl rfl hb60357 rfl ?_
                        refine WL.gskip rfl rfl rfl hb60357 rfl ?_
                        refine WL.gskip rfl rfl rfl hb60357 rfl ?_
                        refine WL.gskip rfl rfl rfl hb60357 rfl ?_
                        refine WL.gskip rfl rfl rfl hb60357 rfl ?_
                        refine WL.gskip rfl rfl rfl hb60357 rfl ?_
                        refine WL.gskip rfl rfl rfl hb60357 rfl ?_
                        refine WL.gvalb rfl rfl rfl hb60356 (R_pickFb rfl hb60357 rfl) rfl rfl ?_
                        refine WL.val (R_pickFb rfl hb60356 rfl) rfl rfl ?_
                        refine WL.nil ?_
                        refine WQ.thenC ?_
                        refine WC.condF rfl ?_
                        refine WC.skip ?_
                        refine WQ.blockN ?_
                        refine WQ.thenC ?_
                        refine WC.reg ?_
                        refine WL.val (R_ar rfl rfl rfl) rfl rfl ?_
                        refine WL.val (R_move rfl) rfl rfl ?_
                        refine WL.nil ?_
                        have hS := hS.pick [] [0, 1] rfl
                        exact WQ.toJ ⟨(IntKind.i64.wrap (y60324 + (1 : Int))), rfl, hS, h⟩ ⟨rfl, rfl, rfl, rfl, rfl, rfl, rfl, trivial⟩
                · have h := ifF hb60346 h
                  refine WC.exit ?_
                  refine WQ.thenE ?_
                  refine WQ.thenE ?_
                  refine WQ.blockE ?_
                  refine WQ.blockN ?_
                  have hS := hS.pick [] [1] rfl
                  exact WQ.toJ ⟨Option.some.inj h, rfl, hS⟩ ⟨rfl, rfl, rfl, trivial⟩
            · rintro _ w ⟨rfl, rfl, hS⟩
              have h := h60301
              try dsimp only at h
              refine WC.reg ?_
              refine WL.val (R_ar rfl rfl rfl) rfl rfl ?_
              refine WL.val (R_move rfl) rfl rfl ?_
              refine WL.nil ?_
              have hS := hS.pick [] [0] rfl
              exact WQ.toJ ⟨(IntKind.i64.wrap (y60161 + (1 : Int))), rfl, hS, h⟩ ⟨rfl, rfl, rfl, trivial⟩
          · have h := ifF hb60254 h
            refine WC.exit ?_
            refine WQ.thenE ?_
            refine WQ.thenE ?_
            refine WQ.blockE ?_
            have hS := hS.pick [] [] rfl
            exact WQ.toJ ⟨Option.some.inj h, rfl, hS⟩ trivial
      · rintro _ w ⟨rfl, rfl, hS⟩
        have h := h60068
        try dsimp only at h
        refine WC.seq ?_
        refine WC.reg ?_
        refine WL.val (R_assign rfl) rfl rfl ?_
        refine WL.nil ?_
        refine WQ.thenC ?_
        refine WC.ret ?_
        have hS0 := hS
        obtain rfl := Option.some.inj h
        exact ret_1 rfl rfl ⟨_, rfl, hS.bel, rfl⟩

def strconv_small (p60399 : Int) : Option ByteArray :=
    if decide (p60399 < (10 : Int)) = true then (if (0 : Int) ≤ p60399 ∧ p60399 ≤ (IntKind.i64.wrap (p60399 + (1 : Int))) ∧ (IntKind.i64.wrap (p60399 + (1 : Int))).toNat ≤ (⟨#[48, 49, 50, 51, 52, 53, 54, 55, 56, 57, 97, 98, 99, 100, 101, 102, 103, 104, 105, 106, 107, 108, 109, 110, 111, 112, 113, 114, 115, 116, 117, 118, 119, 120, 121, 122]⟩ : ByteArray).size then (some ((⟨#[48, 49, 50, 51, 52, 53, 54, 55, 56, 57, 97, 98, 99, 100, 101, 102, 103, 104, 105, 106, 107, 108, 109, 110, 111, 112, 113, 114, 115, 116, 117, 118, 119, 120, 121, 122]⟩ : ByteArray).extract p60399.toNat (IntKind.i64.wrap (p60399 + (1 : Int))).toNat)) else none) else (if (0 : Int) ≤ (IntKind.i64.wrap (p60399 * (2 : Int))) ∧ (IntKind.i64.wrap (p60399 * (2 : Int))) ≤ (IntKind.i64.wrap ((IntKind.i64.wrap (p60399 * (2 : Int))) + (2 : Int))) ∧ (IntKind.i64.wrap ((IntKind.i64.wrap (p60399 * (2 : Int))) + (2 : Int))).toNat ≤ (⟨#[48, 48, 48, 49, 48, 50, 48, 51, 48, 52, 48, 53, 48, 54, 48, 55, 48, 56, 48, 57, 49, 48, 49, 49, 49, 50, 49, 51, 49, 52, 49, 53, 49, 54, 49, 55, 49, 56, 49, 57, 50, 48, 50, 49, 50, 50, 50, 51, 50, 52, 50, 53, 50, 54, 50, 55, 50, 56, 50, 57, 51, 48, 51, 49, 51, 50, 51, 51, 51, 52, 51, 53, 51, 54, 51, 55, 51, 56, 51, 57, 52, 48, 52, 49, 52, 50, 52, 51, 52, 52, 52, 53, 52, 54, 52, 55, 52, 56, 52, 57, 53, 48, 53, 49, 53, 50, 53, 51, 53, 52, 53, 53, 53, 54, 53, 55, 53, 56, 53, 57, 54, 48, 54, 49, 54, 50, 54, 51, 54, 52, 54, 53, 54, 54, 54, 55, 54, 56, 54, 57, 55, 48, 55, 49, 55, 50, 55, 51, 55, 52, 55, 53, 55, 54, 55, 55, 55, 56, 55, 57, 56, 48, 56, 49, 56, 50, 56, 51, 56, 52, 56, 53, 56, 54, 56, 55, 56, 56, 56, 57, 57, 48, 57, 49, 57, 50, 57, 51, 57, 52, 57, 53, 57, 54, 57, 55, 57, 56, 57, 57]⟩ : ByteArray).size then (some ((⟨#[48, 48, 48, 49, 48, 50, 48, 51, 48, 52, 48, 53, 48, 54, 48, 55, 48, 56, 48, 57, 49, 48, 49, 49, 49, 50, 49, 51, 49, 52, 49, 53, 49, 54, 49, 55, 49, 56, 49, 57, 50, 48, 50, 49, 50, 50, 50, 51, 50, 52, 50, 53, 50, 54, 50, 55, 50, 56, 50, 57, 51, 48, 51, 49, 51, 50, 51, 51, 51, 52, 51, 53, 51, 54, 51, 55, 51, 56, 51, 57, 52, 48, 52, 49, 52, 50, 52, 51, 52, 52, 52, 53, 52, 54, 52, 55, 52, 56, 52, 57, 53, 48, 53, 49, 53, 50, 53, 51, 53, 52, 53, 53, 53, 54, 53, 55, 53, 56, 53, 57, 54, 48, 54, 49, 54, 50, 54, 51, 54, 52, 54, 53, 54, 54, 54, 55, 54, 56, 54, 57, 55, 48, 55, 49, 55, 50, 55, 51, 55, 52, 55, 53, 55, 54, 55, 55, 55, 56, 55, 57, 56, 48, 56, 49, 56, 50, 56, 51, 56, 52, 56, 53, 56, 54, 56, 55, 56, 56, 56, 57, 57, 48, 57, 49, 57, 50, 57, 51, 57, 52, 57, 53, 57, 54, 57, 55, 57, 56, 57, 57]⟩ : ByteArray).extract (IntKind.i64.wrap (p60399 * (2 : Int))).toNat (IntKind.i64.wrap ((IntKind.i64.wrap (p60399 * (2 : Int))) + (2 : Int))).toNat)) else none)

theorem strconv_small_ok {w0 : World} {M : MSet} (hM : ∀ k, M k → k < w0.heap.size) (p60399 : Int) (r : ByteArray) (h : strconv_small p60399 = some r) :
    Calls Tryz.prog 229 #[.int .i64 p60399] w0 (Gives w0 fun v w' => v = .string r) := by
  have hS := Sta.init hM
  unfold strconv_small at h
  refine calls_enter (n := 0) Tryz.func229 rfl [(0, .int .i64 p60399)] rfl rfl ⟨rfl, trivial⟩ ?_
  refine WC.seq ?_
  refine WC.reg ?_
  refine WL.val (R_assign rfl) rfl rfl ?_
  refine WL.nil ?_
  refine WQ.thenC ?_
  refine WC.seq ?_
  refine WC.seq ?_
  refine WC.reg ?_
  refine WL.val (R_move rfl) rfl rfl ?_
  refine WL.val (R_cmp rfl rfl rfl) rfl rfl ?_
  refine WL.nil ?_
  refine WQ.thenC ?_
  refine WC.cond rfl (fun hb60403 => ?_) (fun hb60403 => ?_)
  · have h := ifT hb60403 h
    refine WC.seq ?_
    refine WC.reg ?_
    refine WL.val (R_move rfl) rfl rfl ?_
    refine WL.val (R_move rfl) rfl rfl ?_
    refine WL.val (R_ar rfl rfl rfl) rfl rfl ?_
    obtain ⟨hg60404, h⟩ := grdS h
    refine WL.val (R_strLH u9 rfl rfl rfl hg60404.1 hg60404.2.1 hg60404.2.2) rfl rfl ?_
    refine WL.val (R_assign rfl) rfl rfl ?_
    refine WL.nil ?_
    refine WQ.thenC ?_
    refine WC.ret ?_
    refine WQ.thenR ?_
    have hS0 := hS
    obtain rfl := Option.some.inj h
    exact ret_1 rfl rfl ⟨_, rfl, hS.bel, rfl⟩
  · have h := ifF hb60403 h
    refine WC.skip ?_
    refine WQ.thenC ?_
    refine WC.seq ?_
    refine WC.reg ?_
    refine WL.val (R_move rfl) rfl rfl ?_
    refine WL.val (R_ar rfl rfl rfl) rfl rfl ?_
    refine WL.val (R_move rfl) rfl rfl ?_
    refine WL.val (R_ar rfl rfl rfl) rfl rfl ?_
    refine WL.val (R_ar rfl rfl rfl) rfl rfl ?_
    obtain ⟨hg60405, h⟩ := grdS h
    refine WL.val (R_strLH u9 rfl rfl rfl hg60405.1 hg60405.2.1 hg60405.2.2) rfl rfl ?_
    refine WL.val (R_assign rfl) rfl rfl ?_
    refine WL.nil ?_
    refine WQ.thenC ?_
    refine WC.ret ?_
    have hS0 := hS
    obtain rfl := Option.some.inj h
    exact ret_1 rfl rfl ⟨_, rfl, hS.bel, rfl⟩

def strconv_FormatInt (p60389 : Int) (p60390 : Int) : Option ByteArray :=
    if decide (p60390 = (10 : Int)) = true then (((if decide ((0 : Int) ≤ p60389) = true then (some (decide (p60389 < (100 : Int)))) else (some false) : Option Bool).bind fun y60434 =>
    if y60434 = true then ((strconv_small p60389).bind fun r60440 =>
    (some r60440).map Fl.ret) else (some (.go ())) : Option (Fl ByteArray Unit)).bind fun o => match o with
    | .ret r => some r
    | .go _ =>
    (none)) else (none)

theorem strconv_FormatInt_ok {w0 : World} {M : MSet} (hM : ∀ k, M k → k < w0.heap.size) (p60389 : Int) (p60390 : Int) (r : ByteArray) (h : strconv_FormatInt p60389 p60390 = some r) :
    Calls Tryz.prog 199 #[.int .i64 p60389, .int .i64 p60390] w0 (Gives w0 fun v w' => v = .string r) := by
  have hS := Sta.init hM
  unfold strconv_FormatInt at h
  refine calls_enter (n := 0) Tryz.func199 rfl [(0, .int .i64 p60389), (1, .int .i64 p60390)] rfl rfl ⟨rfl, rfl, trivial⟩ ?_
  refine WC.seq ?_
  refine WC.reg ?_
  refine WL.val (R_assign rfl) rfl rfl ?_
  refine WL.nil ?_
  refine WQ.thenC ?_
  refine WC.seq ?_
  refine WC.seq ?_
  refine WC.reg ?_
  refine WL.val (R_move rfl) rfl rfl ?_
  refine WL.val (R_cmp rfl rfl rfl) rfl rfl ?_
  refine WL.nil ?_
  refine WQ.thenC ?_
  refine WC.cond rfl (fun hb60420 => ?_) (fun hb60420 => ?_)
  · have h := ifT hb60420 h
    obtain ⟨o60430, h60431, h60432⟩ := bindS h
    refine WC.seqM (fun env w => Fl.go () = o60430 ∧ env = [(0, .int .i64 p60389)] ∧ Sta w0 M [] [] w) ?_ ?_
    · have h := h60431
      obtain ⟨o60435, h60436, h60437⟩ := bindS h
      refine WC.seqM (fun env w => ∃ (y60434 : Bool), y60434 = o60435 ∧ env = [(0, .int .i64 p60389), (17, .bool y60434)] ∧ Sta w0 M [] [] w) ?_ ?_
      · have h := h60436
        refine WC.reg ?_
        refine WL.val (R_move rfl) rfl rfl ?_
        refine WL.val (R_cmp rfl rfl rfl) rfl rfl ?_
        refine WL.val (R_move rfl) rfl rfl ?_
        rcases boolS h with ⟨hb60438, h⟩ | ⟨hb60438, h⟩
        · refine WL.gvalb rfl rfl rfl hb60438 (R_move rfl) rfl rfl ?_
          refine WL.gvalb rfl rfl rfl hb60438 (R_cmp rfl rfl rfl) rfl rfl ?_
          refine WL.val (R_pickTb rfl hb60438 rfl) rfl rfl ?_
          refine WL.nil ?_
          have hS := hS.pick [] [] rfl
          exact WQ.toJ ⟨decide (p60389 < (100 : Int)), Option.some.inj h, rfl, hS⟩ ⟨rfl, rfl, trivial⟩
        · refine WL.gskip rfl rfl rfl hb60438 rfl ?_
          refine WL.gskip rfl rfl rfl hb60438 rfl ?_
          refine WL.val (R_pickFb rfl hb60438 rfl) rfl rfl ?_
          refine WL.nil ?_
          have hS := hS.pick [] [] rfl
          exact WQ.toJ ⟨false, Option.some.inj h, rfl, hS⟩ ⟨rfl, rfl, trivial⟩
      · rintro _ w ⟨y60434, rfl, rfl, hS⟩
        have h := h60437
        try dsimp only at h
        refine WC.cond rfl (fun hb60439 => ?_) (fun hb60439 => ?_)
        · have h := ifT hb60439 h
          refine WC.seq ?_
          refine WC.reg ?_
          refine WL.val (R_move rfl) rfl rfl ?_
          obtain ⟨r60440, hr60441, h⟩ := bindS h
          refine WL.call e229 rfl rfl hS (strconv_small_ok (hS).mx_lt p60389  _ hr60441) rfl ?_
          intro v w hB hS hP
          obtain ⟨rfl⟩ := hP
          refine WL.val (R_assign rfl) rfl rfl ?_
          refine WL.nil ?_
          refine WQ.thenC ?_
          refine WC.ret ?_
          refine WQ.thenR ?_
          obtain ⟨_, hr, rfl⟩ := mapS h
          have h := hr.trans h60432
          refine WQ.thenR ?_
          have hS0 := hS
          obtain rfl := Option.some.inj h
          exact ret_1 rfl rfl ⟨_, rfl, hS.bel, rfl⟩
        · have h := ifF hb60439 h
          refine WC.skip ?_
          have hS := hS.pick [] [] rfl
          exact WQ.toJ ⟨Option.some.inj h, rfl, hS⟩ ⟨rfl, trivial⟩
    · rintro _ w ⟨rfl, rfl, hS⟩
      have h := h60432
      try dsimp only at h
      cases h
  · have h := ifF hb60420 h
    cases h

def strconv_Itoa_f222 (p60388 : Int) : Option ByteArray :=
    (strconv_FormatInt p60388 (10 : Int)).bind fun r60444 =>
    some r60444

theorem strconv_Itoa_f222_ok {w0 : World} {M : MSet} (hM : ∀ k, M k → k < w0.heap.size) (p60388 : Int) (r : ByteArray) (h : strconv_Itoa_f222 p60388 = some r) :
    Calls Tryz.prog 222 #[.int .i64 p60388] w0 (Gives w0 fun v w' => v = .string r) := by
  have hS := Sta.init hM
  unfold strconv_Itoa_f222 at h
  refine calls_enter (n := 0) Tryz.func222 rfl [(0, .int .i64 p60388)] rfl rfl ⟨rfl, trivial⟩ ?_
  refine WC.seq ?_
  refine WC.reg ?_
  refine WL.val (R_assign rfl) rfl rfl ?_
  refine WL.nil ?_
  refine WQ.thenC ?_
  refine WC.seq ?_
  refine WC.reg ?_
  refine WL.val (R_move rfl) rfl rfl ?_
  obtain ⟨r60444, hr60445, h⟩ := bindS h
  refine WL.call e199 rfl rfl hS (strconv_FormatInt_ok (hS).mx_lt p60388 (10 : Int)  _ hr60445) rfl ?_
  intro v w hB hS hP
  obtain ⟨rfl⟩ := hP
  refine WL.val (R_assign rfl) rfl rfl ?_
  refine WL.nil ?_
  refine WQ.thenC ?_
  refine WC.ret ?_
  have hS0 := hS
  obtain rfl := Option.some.inj h
  exact ret_1 rfl rfl ⟨_, rfl, hS.bel, rfl⟩

def strconv_Itoa (p60387 : Int) : Option ByteArray :=
    (strconv_Itoa_f222 p60387).bind fun r60448 =>
    some r60448

theorem strconv_Itoa_ok {w0 : World} {M : MSet} (hM : ∀ k, M k → k < w0.heap.size) (p60387 : Int) (r : ByteArray) (h : strconv_Itoa p60387 = some r) :
    Calls Tryz.prog 185 #[.int .i64 p60387] w0 (Gives w0 fun v w' => v = .string r) := by
  have hS := Sta.init hM
  unfold strconv_Itoa at h
  refine calls_enter (n := 0) Tryz.func185 rfl [(0, .int .i64 p60387)] rfl rfl ⟨rfl, trivial⟩ ?_
  refine WC.seq ?_
  refine WC.reg ?_
  refine WL.val (R_assign rfl) rfl rfl ?_
  refine WL.nil ?_
  refine WQ.thenC ?_
  refine WC.seq ?_
  refine WC.reg ?_
  refine WL.val (R_move rfl) rfl rfl ?_
  obtain ⟨r60448, hr60449, h⟩ := bindS h
  refine WL.call e222 rfl rfl hS (strconv_Itoa_f222_ok (hS).mx_lt p60387  _ hr60449) rfl ?_
  intro v w hB hS hP
  obtain ⟨rfl⟩ := hP
  refine WL.val (R_assign rfl) rfl rfl ?_
  refine WL.nil ?_
  refine WQ.thenC ?_
  refine WC.ret ?_
  have hS0 := hS
  obtain rfl := Option.some.inj h
  exact ret_1 rfl rfl ⟨_, rfl, hS.bel, rfl⟩

def bins_placed_l0 (k : Nat) (p60543 : BinNode) (p60536 : Bins) : Nat → Int → Option (Fl Bool Unit)
  | 0, _ => none
  | m + 1, y60814 =>
    if decide (y60814 < (p60543.cats.length : Int)) = true then ((rd p60543.cats y60814).bind fun x60838 =>
    if decide (x60838 < (0 : Int)) = true then ((some false).map Fl.ret) else ((rd p60536.cats p60543.feature).bind fun x60847 =>
    if decide ((x60847.length : Int) ≤ x60838) = true then ((some false).map Fl.ret) else (bins_placed_l0 k p60543 p60536 m (IntKind.i64.wrap (y60814 + (1 : Int)))))) else (some (.go ()))

def bins_placed (k : Nat) (p60536 : Bins) (p60543 : BinNode) : Option Bool :=
    (if decide (p60543.kind ≠ (2 : Int)) = true then (if decide (p60543.rank ≠ (0 : Int)) = true then ((some false).map Fl.ret) else (some (.go ()))) else (some (.go ())) : Option (Fl Bool Unit)).bind fun o => match o with
    | .ret r => some r
    | .go _ =>
    ((if decide (p60543.kind ≠ (2 : Int)) = true then (if decide (p60543.kind ≠ (3 : Int)) = true then ((some true).map Fl.ret) else (some (.go ()))) else (some (.go ())) : Option (Fl Bool Unit)).bind fun o => match o with
    | .ret r => some r
    | .go _ =>
    ((if decide (p60543.feature < (0 : Int)) = true then ((some false).map Fl.ret) else (if decide ((p60536.cuts.length : Int) ≤ p60543.feature) = true then ((some false).map Fl.ret) else (some (.go ()))) : Option (Fl Bool Unit)).bind fun o => match o with
    | .ret r => some r
    | .go _ =>
    (if decide (p60543.kind = (2 : Int)) = true then ((if decide ((0 : Int) ≤ p60543.rank) = true then ((rd p60536.cuts p60543.feature).bind fun x60733 =>
    some (decide (p60543.rank < (x60733.length : Int)))) else (some false) : Option Bool).bind fun y60728 =>
    some y60728) else ((bins_placed_l0 k p60543 p60536 k (0 : Int) : Option (Fl Bool Unit)).bind fun o => match o with
    | .ret r => some r
    | .go _ =>
    (some true)))))

theorem bins_placed_ok {w0 : World} {M : MSet} (hM : ∀ k, M k → k < w0.heap.size) (k : Nat) (p60536 : Bins) (p60543 : BinNode) {A60537 : Option Addr} {c60538 : Nat} (hs60539 : p60536.cuts.length ≤ c60538 ∧ Sl (RSl RF) M w0 A60537 p60536.cuts) {A60540 : Option Addr} {c60541 : Nat} (hs60542 : p60536.cats.length ≤ c60541 ∧ Sl (RSl (RI .i64)) M w0 A60540 p60536.cats) {A60544 : Option Addr} {c60545 : Nat} (hs60546 : p60543.cats.length ≤ c60545 ∧ Sl (RI .i64) M w0 A60544 p60543.cats) (r : Bool) (h : bins_placed k p60536 p60543 = some r) :
    Calls Tryz.prog 186 #[.agg #[.slice A60537 p60536.cuts.length c60538, .slice A60540 p60536.cats.length c60541], .agg #[.int .u8 p60543.kind, .int .i64 p60543.value, .int .i64 p60543.feature, .int .i64 p60543.rank, .slice A60544 p60543.cats.length c60545, .int .u8 p60543.missing, .int .i64 p60543.left, .int .i64 p60543.right]] w0 (Gives w0 fun v w' => v = .bool r) := by
  have hS := Sta.init hM
  have hS := hS.arg hs60539
  have hS := hS.arg hs60542
  have hS := hS.arg hs60546
  unfold bins_placed at h
  refine calls_enter (n := 0) Tryz.func186 rfl [(0, .agg #[.slice A60537 p60536.cuts.length c60538, .slice A60540 p60536.cats.length c60541]), (1, .agg #[.int .u8 p60543.kind, .int .i64 p60543.value, .int .i64 p60543.feature, .int .i64 p60543.rank, .slice A60544 p60543.cats.length c60545, .int .u8 p60543.missing, .int .i64 p60543.left, .int .i64 p60543.right])] rfl rfl ⟨rfl, rfl, trivial⟩ ?_
  refine WC.seq ?_
  refine WC.reg ?_
  refine WL.box [.slice A60537 p60536.cuts.length c60538, .slice A60540 p60536.cats.length c60541] rfl rfl hS rfl ?_
  intro b60692 w hS
  refine WL.box [.int .u8 p60543.kind, .int .i64 p60543.value, .int .i64 p60543.feature, .int .i64 p60543.rank, .slice A60544 p60543.cats.length c60545, .int .u8 p60543.missing, .int .i64 p60543.left, .int .i64 p60543.right] rfl rfl hS rfl ?_
  intro b60693 w hS
  refine WL.val (R_assign rfl) rfl rfl ?_
  refine WL.nil ?_
  refine WQ.thenC ?_
  obtain ⟨o60696, h60697, h60698⟩ := bindS h
  refine WC.seqM (fun env w => Fl.go () = o60696 ∧ env = [(2, .pointer (some ⟨b60692, 0, none⟩)), (3, .pointer (some ⟨b60693, 0, none⟩))] ∧ Sta w0 M [Blk b60692 [.slice A60537 p60536.cuts.length c60538, .slice A60540 p60536.cats.length c60541] 70, Blk b60693 [.int .u8 p60543.kind, .int .i64 p60543.value, .int .i64 p60543.feature, .int .i64 p60543.rank, .slice A60544 p60543.cats.length c60545, .int .u8 p60543.missing, .int .i64 p60543.left, .int .i64 p60543.right] 214] [FSl (RSl RF) A60537 c60538 p60536.cuts, FSl (RSl (RI .i64)) A60540 c60541 p60536.cats, FSl (RI .i64) A60544 c60545 p60543.cats] w) ?_ ?_
  · have h := h60697
    refine WC.seq ?_
    refine WC.reg ?_
    refine WL.val (R_fieldB o214_0 rfl) rfl rfl ?_
    refine WL.val (R_load1 g53 rfl (hS.cell 0 rfl rfl)) rfl rfl ?_
    refine WL.val (R_cmp rfl rfl rfl) rfl rfl ?_
    refine WL.val (R_move rfl) rfl rfl ?_
    rcases boolS h with ⟨hb60699, h⟩ | ⟨hb60699, h⟩
    · refine WL.gvalb rfl rfl rfl hb60699 (R_fieldB o214_3 rfl) rfl rfl ?_
      refine WL.gvalb rfl rfl rfl hb60699 (R_load1 g3 rfl (hS.cell 0 rfl rfl)) rfl rfl ?_
      refine WL.gvalb rfl rfl rfl hb60699 (R_cmp rfl rfl rfl) rfl rfl ?_
      refine WL.val (R_pickTb rfl hb60699 rfl) rfl rfl ?_
      refine WL.nil ?_
      refine WQ.thenC ?_
      refine WC.cond rfl (fun hb60700 => ?_) (fun hb60700 => ?_)
      · have h := ifT hb60700 h
        refine WC.seq ?_
        refine WC.reg ?_
        refine WL.val (R_assign rfl) rfl rfl ?_
        refine WL.nil ?_
        refine WQ.thenC ?_
        refine WC.ret ?_
        refine WQ.thenR ?_
        obtain ⟨_, hr, rfl⟩ := mapS h
        have h := hr.trans h60698
        have hS0 := hS
        obtain rfl := Option.some.inj h
        exact ret_1 rfl rfl ⟨_, rfl, hS.bel, rfl⟩
      · have h := ifF hb60700 h
        refine WC.skip ?_
        have hS := hS.pick [1, 0] [2, 1, 0] rfl
        exact WQ.toJ ⟨Option.some.inj h, rfl, hS⟩ ⟨rfl, rfl, trivial⟩
    · refine WL.gskip rfl rfl rfl hb60699 rfl ?_
      refine WL.gskip rfl rfl rfl hb60699 rfl ?_
      refine WL.gskip rfl rfl rfl hb60699 rfl ?_
      refine WL.val (R_pickFb rfl hb60699 rfl) rfl rfl ?_
      refine WL.nil ?_
      refine WQ.thenC ?_
      refine WC.condF rfl ?_
      refine WC.skip ?_
      have hS := hS.pick [1, 0] [2, 1, 0] rfl
      exact WQ.toJ ⟨Option.some.inj h, rfl, hS⟩ ⟨rfl, rfl, trivial⟩
  · rintro _ w ⟨rfl, rfl, hS⟩
    have h := h60698
    try dsimp only at h
    obtain ⟨o60703, h60704, h60705⟩ := bindS h
    refine WC.seqM (fun env w => Fl.go () = o60703 ∧ env = [(2, .pointer (some ⟨b60692, 0, none⟩)), (3, .pointer (some ⟨b60693, 0, none⟩))] ∧ Sta w0 M [Blk b60692 [.slice A60537 p60536.cuts.length c60538, .slice A60540 p60536.cats.length c60541] 70, Blk b60693 [.int .u8 p60543.kind, .int .i64 p60543.value, .int .i64 p60543.feature, .int .i64 p60543.rank, .slice A60544 p60543.cats.length c60545, .int .u8 p60543.missing, .int .i64 p60543.left, .int .i64 p60543.right] 214] [FSl (RSl RF) A60537 c60538 p60536.cuts, FSl (RSl (RI .i64)) A60540 c60541 p60536.cats, FSl (RI .i64) A60544 c60545 p60543.cats] w) ?_ ?_
    · have h := h60704
      refine WC.seq ?_
      refine WC.reg ?_
      refine WL.val (R_fieldB o214_0 rfl) rfl rfl ?_
      refine WL.val (R_load1 g53 rfl (hS.cell 1 rfl rfl)) rfl rfl ?_
      refine WL.val (R_cmp rfl rfl rfl) rfl rfl ?_
      refine WL.val (R_move rfl) rfl rfl ?_
      rcases boolS h with ⟨hb60706, h⟩ | ⟨hb60706, h⟩
      · refine WL.gvalb rfl rfl rfl hb60706 (R_fieldB o214_0 rfl) rfl rfl ?_
        refine WL.gvalb rfl rfl rfl hb60706 (R_load1 g53 rfl (hS.cell 1 rfl rfl)) rfl rfl ?_
        refine WL.gvalb rfl rfl rfl hb60706 (R_cmp rfl rfl rfl) rfl rfl ?_
        refine WL.val (R_pickTb rfl hb60706 rfl) rfl rfl ?_
        refine WL.nil ?_
        refine WQ.thenC ?_
        refine WC.cond rfl (fun hb60707 => ?_) (fun hb60707 => ?_)
        · have h := ifT hb60707 h
          refine WC.seq ?_
          refine WC.reg ?_
          refine WL.val (R_assign rfl) rfl rfl ?_
          refine WL.nil ?_
          refine WQ.thenC ?_
          refine WC.ret ?_
          refine WQ.thenR ?_
          obtain ⟨_, hr, rfl⟩ := mapS h
          have h := hr.trans h60705
          have hS0 := hS
          obtain rfl := Option.some.inj h
          exact ret_1 rfl rfl ⟨_, rfl, hS.bel, rfl⟩
        · have h := ifF hb60707 h
          refine WC.skip ?_
          have hS := hS.pick [0, 1] [0, 1, 2] rfl
          exact WQ.toJ ⟨Option.some.inj h, rfl, hS⟩ ⟨rfl, rfl, trivial⟩
      · refine WL.gskip rfl rfl rfl hb60706 rfl ?_
        refine WL.gskip rfl rfl rfl hb60706 rfl ?_
        refine WL.gskip rfl rfl rfl hb60706 rfl ?_
        refine WL.val (R_pickFb rfl hb60706 rfl) rfl rfl ?_
        refine WL.nil ?_
        refine WQ.thenC ?_
        refine WC.condF rfl ?_
        refine WC.skip ?_
        have hS := hS.pick [0, 1] [0, 1, 2] rfl
        exact WQ.toJ ⟨Option.some.inj h, rfl, hS⟩ ⟨rfl, rfl, trivial⟩
    · rintro _ w ⟨rfl, rfl, hS⟩
      have h := h60705
      try dsimp only at h
      obtain ⟨o60710, h60711, h60712⟩ := bindS h
      refine WC.seqM (fun env w => Fl.go () = o60710 ∧ env = [(2, .pointer (some ⟨b60692, 0, none⟩)), (3, .pointer (some ⟨b60693, 0, none⟩))] ∧ Sta w0 M [Blk b60692 [.slice A60537 p60536.cuts.length c60538, .slice A60540 p60536.cats.length c60541] 70, Blk b60693 [.int .u8 p60543.kind, .int .i64 p60543.value, .int .i64 p60543.feature, .int .i64 p60543.rank, .slice A60544 p60543.cats.length c60545, .int .u8 p60543.missing, .int .i64 p60543.left, .int .i64 p60543.right] 214] [FSl (RSl RF) A60537 c60538 p60536.cuts, FSl (RSl (RI .i64)) A60540 c60541 p60536.cats, FSl (RI .i64) A60544 c60545 p60543.cats] w) ?_ ?_
      · have h := h60711
        refine WC.seq ?_
        refine WC.reg ?_
        refine WL.val (R_fieldB o214_2 rfl) rfl rfl ?_
        refine WL.val (R_load1 g3 rfl (hS.cell 1 rfl rfl)) rfl rfl ?_
        refine WL.val (R_cmp rfl rfl rfl) rfl rfl ?_
        refine WL.val (R_move rfl) rfl rfl ?_
        rcases boolS h with ⟨hb60713, h⟩ | ⟨hb60713, h⟩
        · refine WL.gskip rfl rfl rfl hb60713 rfl ?_
          refine WL.gskip rfl rfl rfl hb60713 rfl ?_
          refine WL.gskip rfl rfl rfl hb60713 rfl ?_
          refine WL.gskip rfl rfl rfl hb60713 rfl ?_
          refine WL.gskip rfl rfl rfl hb60713 rfl ?_
          refine WL.gskip rfl rfl rfl hb60713 rfl ?_
          refine WL.val (R_pickTb rfl hb60713 rfl) rfl rfl ?_
          refine WL.nil ?_
          refine WQ.thenC ?_
          refine WC.condT rfl ?_
          refine WC.seq ?_
          refine WC.reg ?_
          refine WL.val (R_assign rfl) rfl rfl ?_
          refine WL.nil ?_
          refine WQ.thenC ?_
          refine WC.ret ?_
          refine WQ.thenR ?_
          obtain ⟨_, hr, rfl⟩ := mapS h
          have h := hr.trans h60712
          have hS0 := hS
          obtain rfl := Option.some.inj h
          exact ret_1 rfl rfl ⟨_, rfl, hS.bel, rfl⟩
        · refine WL.gvalb rfl rfl rfl hb60713 (R_fieldB o214_2 rfl) rfl rfl ?_
          refine WL.gvalb rfl rfl rfl hb60713 (R_load1 g3 rfl (hS.cell 1 rfl rfl)) rfl rfl ?_
          refine WL.gvalb rfl rfl rfl hb60713 (R_fieldB o70_0 rfl) rfl rfl ?_
          refine WL.gvalb rfl rfl rfl hb60713 (R_load1 g62 rfl (hS.cell 0 rfl rfl)) rfl rfl ?_
          refine WL.gvalb rfl rfl rfl hb60713 (R_lenS u62 rfl) rfl rfl ?_
          refine WL.gvalb rfl rfl rfl hb60713 (R_cmp rfl rfl rfl) rfl rfl ?_
          refine WL.val (R_pickFb rfl hb60713 rfl) rfl rfl ?_
          refine WL.nil ?_
          refine WQ.thenC ?_
          refine WC.cond rfl (fun hb60714 => ?_) (fun hb60714 => ?_)
          · have h := ifT hb60714 h
            refine WC.seq ?_
            refine WC.reg ?_
            refine WL.val (R_assign rfl) rfl rfl ?_
            refine WL.nil ?_
            refine WQ.thenC ?_
            refine WC.ret ?_
            refine WQ.thenR ?_
            obtain ⟨_, hr, rfl⟩ := mapS h
            have h := hr.trans h60712
            have hS0 := hS
            obtain rfl := Option.some.inj h
            exact ret_1 rfl rfl ⟨_, rfl, hS.bel, rfl⟩
          · have h := ifF hb60714 h
            refine WC.skip ?_
            have hS := hS.pick [0, 1] [0, 1, 2] rfl
            exact WQ.toJ ⟨Option.some.inj h, rfl, hS⟩ ⟨rfl, rfl, trivial⟩
      · rintro _ w ⟨rfl, rfl, hS⟩
        have h := h60712
        try dsimp only at h
        refine WC.seq ?_
        refine WC.seq ?_
        refine WC.reg ?_
        refine WL.val (R_fieldB o214_0 rfl) rfl rfl ?_
        refine WL.val (R_load1 g53 rfl (hS.cell 1 rfl rfl)) rfl rfl ?_
        refine WL.val (R_cmp rfl rfl rfl) rfl rfl ?_
        refine WL.nil ?_
        refine WQ.thenC ?_
        refine WC.cond rfl (fun hb60715 => ?_) (fun hb60715 => ?_)
        · have h := ifT hb60715 h
          obtain ⟨o60729, h60730, h60731⟩ := bindS h
          refine WC.seqM (fun env w => ∃ (y60728 : Bool), y60728 = o60729 ∧ env = [(4, .bool y60728)] ∧ Sta w0 M [] [] w) ?_ ?_
          · have h := h60730
            refine WC.draw fol (by kernel_rfl) hS ?_
            refine QL.val (fun _ hw => R_fieldB o214_3 rfl) rfl ?_
            refine QL.val (fun _ hw => R_load1 g3 rfl (lat hw (hS.cell 1 rfl rfl))) rfl ?_
            refine QL.val (fun _ hw => R_cmp rfl rfl rfl) rfl ?_
            refine QL.val (fun _ hw => R_move rfl) rfl ?_
            rcases boolS h with ⟨hb60732, h⟩ | ⟨hb60732, h⟩
            · refine QL.gvalb rfl rfl rfl hb60732 (fun _ hw => R_fieldB o214_3 rfl) rfl ?_
              refine QL.gvalb rfl rfl rfl hb60732 (fun _ hw => R_load1 g3 rfl (lat hw (hS.cell 1 rfl rfl))) rfl ?_
              refine QL.gvalb rfl rfl rfl hb60732 (fun _ hw => R_fieldB o70_0 rfl) rfl ?_
              refine QL.gvalb rfl rfl rfl hb60732 (fun _ hw => R_load1 g62 rfl (lat hw (hS.cell 0 rfl rfl))) rfl ?_
              refine QL.gvalb rfl rfl rfl hb60732 (fun _ hw => R_fieldB o214_2 rfl) rfl ?_
              refine QL.gvalb rfl rfl rfl hb60732 (fun _ hw => R_load1 g3 rfl (lat hw (hS.cell 1 rfl rfl))) rfl ?_
              obtain ⟨x60733, hx60734, h⟩ := bindS h
              obtain ⟨ad60735, cs60736, hA60737, hq60738, hK60739, hc60740⟩ := hS.sget 0 rfl (rdS hx60734).2.2
              obtain ⟨A60741, c60742, rfl, hs60743⟩ := hK60739
              have hS := hS.addF (FSl RF A60741 c60742 x60733) hs60743
              refine QL.gvalb rfl rfl rfl hb60732 (fun _ hw => R_indexAddr u62 z65 rfl rfl hA60737 (rdS hx60734).1 hq60738) rfl ?_
              refine QL.gvalb rfl rfl rfl hb60732 (fun _ hw => R_load1 g65 rfl (lat hw (hc60740 0 _ rfl))) rfl ?_
              refine QL.gvalb rfl rfl rfl hb60732 (fun _ hw => R_lenS u65 rfl) rfl ?_
              refine QL.gvalb rfl rfl rfl hb60732 (fun _ hw => R_cmp rfl rfl rfl) rfl ?_
              refine QL.val (fun _ hw => R_pickTb rfl hb60732 rfl) rfl ?_
              refine QL.val (fun _ hw => R_assign rfl) rfl ?_
              refine QL.last (fun w hb _ => ?_)
              have hS := hS.ext hb
              have hS := hS.pick [] [] rfl
              exact WQ.toJ ⟨decide (p60543.rank < (x60733.length : Int)), Option.some.inj h, rfl, hS⟩ ⟨rfl, trivial⟩
            · refine QL.gskip rfl rfl rfl hb60732 rfl ?_
              refine QL.gskip rfl rfl rfl hb60732 rfl ?_
              refine QL.gskip rfl rfl rfl hb60732 rfl ?_
              refine QL.gskip rfl rfl rfl hb60732 rfl ?_
              refine QL.gskip rfl rfl rfl hb60732 rfl ?_
              refine QL.gskip rfl rfl rfl hb60732 rfl ?_
              refine QL.gskip rfl rfl rfl hb60732 rfl ?_
              refine QL.gskip rfl rfl rfl hb60732 rfl ?_
              refine QL.gskip rfl rfl rfl hb60732 rfl ?_
              refine QL.gskip rfl rfl rfl hb60732 rfl ?_
              refine QL.val (fun _ hw => R_pickFb rfl hb60732 rfl) rfl ?_
              refine QL.val (fun _ hw => R_assign rfl) rfl ?_
              refine QL.last (fun w hb _ => ?_)
              have hS := hS.ext hb
              have hS := hS.pick [] [] rfl
              exact WQ.toJ ⟨false, Option.some.inj h, rfl, hS⟩ ⟨rfl, trivial⟩
          · rintro _ w ⟨y60728, rfl, rfl, hS⟩
            have h := h60731
            try dsimp only at h
            refine WC.ret ?_
            refine WQ.thenR ?_
            have hS0 := hS
            obtain rfl := Option.some.inj h
            exact ret_1 rfl rfl ⟨_, rfl, hS.bel, rfl⟩
        · have h := ifF hb60715 h
          refine WC.skip ?_
          refine WQ.thenC ?_
          obtain ⟨o60789, h60790, h60791⟩ := bindS h
          refine WC.seqM (fun env w => Fl.go () = o60789 ∧ env = [] ∧ Sta w0 M [] [] w) ?_ ?_
          · have h := h60790
            refine WC.seq ?_
            refine WC.reg ?_
            refine WL.val (R_fieldB o214_4 rfl) rfl rfl ?_
            refine WL.val (R_load1 g55 rfl (hS.cell 1 rfl rfl)) rfl rfl ?_
            refine WL.val (R_lenS u55 rfl) rfl rfl ?_
            refine WL.val (R_move rfl) rfl rfl ?_
            refine WL.nil ?_
            refine WQ.thenC ?_
            refine WC.block ?_
            have hS := hS.pick [0, 1] [2, 0, 1] rfl
            refine WC.loopJ (fun m env w => ∃ (y60814 : Int), env = [(2, .pointer (some ⟨b60692, 0, none⟩)), (3, .pointer (some ⟨b60693, 0, none⟩)), (53, .slice A60544 p60543.cats.length c60545), (54, .int .i64 (p60543.cats.length : Int)), (55, .int .i64 y60814)] ∧ Sta w0 M [Blk b60692 [.slice A60537 p60536.cuts.length c60538, .slice A60540 p60536.cats.length c60541] 70, Blk b60693 [.int .u8 p60543.kind, .int .i64 p60543.value, .int .i64 p60543.feature, .int .i64 p60543.rank, .slice A60544 p60543.cats.length c60545, .int .u8 p60543.missing, .int .i64 p60543.left, .int .i64 p60543.right] 214] [FSl (RI .i64) A60544 c60545 p60543.cats, FSl (RSl RF) A60537 c60538 p60536.cuts, FSl (RSl (RI .i64)) A60540 c60541 p60536.cats] w ∧ bins_placed_l0 k p60543 p60536 m y60814 = some o60789) k ⟨(0 : Int), rfl, hS, h⟩ ⟨rfl, rfl, rfl, rfl, rfl, trivial⟩ (fun env w hI => ?_) (fun m env w hI => ?_)
            · obtain ⟨y60814, rfl, hS, h⟩ := hI
              rw [bins_placed_l0] at h
              cases h
            · obtain ⟨y60814, rfl, hS, h⟩ := hI
              rw [bins_placed_l0] at h
              refine WC.seq ?_
              refine WC.reg ?_
              refine WL.val (R_cmp rfl rfl rfl) rfl rfl ?_
              refine WL.nil ?_
              refine WQ.thenC ?_
              refine WC.seq ?_
              refine WC.cond rfl (fun hb60837 => ?_) (fun hb60837 => ?_)
              · have h := ifT hb60837 h
                refine WC.skip ?_
                refine WQ.thenC ?_
                refine WC.seq ?_
                refine WC.block ?_
                refine WC.seq ?_
                refine WC.reg ?_
                obtain ⟨x60838, hx60839, h⟩ := bindS h
                obtain ⟨ad60840, cs60841, hA60842, hq60843, hK60844, hc60845⟩ := hS.sget 0 rfl (rdS hx60839).2.2
                obtain rfl := hK60844
                refine WL.val (R_indexAddr u55 z3 rfl rfl hA60842 (rdS hx60839).1 hq60843) rfl rfl ?_
                refine WL.val (R_load1 g3 rfl (hc60845 0 _ rfl)) rfl rfl ?_
                refine WL.val (R_assign rfl) rfl rfl ?_
                refine WL.nil ?_
                refine WQ.thenC ?_
                refine WC.seq ?_
                refine WC.reg ?_
                refine WL.val (R_move rfl) rfl rfl ?_
                refine WL.val (R_cmp rfl rfl rfl) rfl rfl ?_
                refine WL.val (R_move rfl) rfl rfl ?_
                rcases boolS h with ⟨hb60846, h⟩ | ⟨hb60846, h⟩
                · refine WL.gskip rfl rfl rfl hb60846 rfl ?_
                  refine WL.gskip rfl rfl rfl hb60846 rfl ?_
                  refine WL.gskip rfl rfl rfl hb60846 rfl ?_
                  refine WL.gskip rfl rfl rfl hb60846 rfl ?_
                  refine WL.gskip rfl rfl rfl hb60846 rfl ?_
                  refine WL.gskip rfl rfl rfl hb60846 rfl ?_
                  refine WL.gskip rfl rfl rfl hb60846 rfl ?_
                  refine WL.gskip rfl rfl rfl hb60846 rfl ?_
                  refine WL.gskip rfl rfl rfl hb60846 rfl ?_
                  refine WL.val (R_pickTb rfl hb60846 rfl) rfl rfl ?_
                  refine WL.nil ?_
                  refine WQ.thenC ?_
                  refine WC.condT rfl ?_
                  refine WC.seq ?_
                  refine WC.reg ?_
                  refine WL.val (R_assign rfl) rfl rfl ?_
                  refine WL.nil ?_
                  refine WQ.thenC ?_
                  refine WC.ret ?_
                  refine WQ.blockR ?_
                  refine WQ.thenR ?_
                  refine WQ.thenR ?_
                  refine WQ.blockR ?_
                  refine WQ.thenR ?_
                  obtain ⟨_, hr, rfl⟩ := mapS h
                  have h := hr.trans h60791
                  have hS0 := hS
                  obtain rfl := Option.some.inj h
                  exact ret_1 rfl rfl ⟨_, rfl, hS.bel, rfl⟩
                · refine WL.gvalb rfl rfl rfl hb60846 (R_move rfl) rfl rfl ?_
                  refine WL.gvalb rfl rfl rfl hb60846 (R_fieldB o70_1 rfl) rfl rfl ?_
                  refine WL.gvalb rfl rfl rfl hb60846 (R_load1 g68 rfl (hS.cell 0 rfl rfl)) rfl rfl ?_
                  refine WL.gvalb rfl rfl rfl hb60846 (R_fieldB o214_2 rfl) rfl rfl ?_
                  refine WL.gvalb rfl rfl rfl hb60846 (R_load1 g3 rfl (hS.cell 1 rfl rfl)) rfl rfl ?_
                  obtain ⟨x60847, hx60848, h⟩ := bindS h
                  obtain ⟨ad60849, cs60850, hA60851, hq60852, hK60853, hc60854⟩ := hS.sget 2 rfl (rdS hx60848).2.2
                  obtain ⟨A60855, c60856, rfl, hs60857⟩ := hK60853
                  have hS := hS.addF (FSl (RI .i64) A60855 c60856 x60847) hs60857
                  refine WL.gvalb rfl rfl rfl hb60846 (R_indexAddr u68 z55 rfl rfl hA60851 (rdS hx60848).1 hq60852) rfl rfl ?_
                  refine WL.gvalb rfl rfl rfl hb60846 (R_load1 g55 rfl (hc60854 0 _ rfl)) rfl rfl ?_
                  refine WL.gvalb rfl rfl rfl hb60846 (R_lenS u55 rfl) rfl rfl ?_
                  refine WL.gvalb rfl rfl rfl hb60846 (R_cmp rfl rfl rfl) rfl rfl ?_
                  refine WL.val (R_pickFb rfl hb60846 rfl) rfl rfl ?_
                  refine WL.nil ?_
                  refine WQ.thenC ?_
                  refine WC.cond rfl (fun hb60858 => ?_) (fun hb60858 => ?_)
                  · have h := ifT hb60858 h
                    refine WC.seq ?_
                    refine WC.reg ?_
                    refine WL.val (R_assign rfl) rfl rfl ?_
                    refine WL.nil ?_
                    refine WQ.thenC ?_
                    refine WC.ret ?_
                    refine WQ.blockR ?_
                    refine WQ.thenR ?_
                    refine WQ.thenR ?_
                    refine WQ.blockR ?_
                    refine WQ.thenR ?_
                    obtain ⟨_, hr, rfl⟩ := mapS h
                    have h := hr.trans h60791
                    have hS0 := hS
                    obtain rfl := Option.some.inj h
                    exact ret_1 rfl rfl ⟨_, rfl, hS.bel, rfl⟩
                  · have h := ifF hb60858 h
                    refine WC.skip ?_
                    refine WQ.blockN ?_
                    refine WQ.thenC ?_
                    refine WC.reg ?_
                    refine WL.val (R_ar rfl rfl rfl) rfl rfl ?_
                    refine WL.val (R_move rfl) rfl rfl ?_
                    refine WL.nil ?_
                    have hS := hS.pick [0, 1] [1, 2, 3] rfl
                    exact WQ.toJ ⟨(IntKind.i64.wrap (y60814 + (1 : Int))), rfl, hS, h⟩ ⟨rfl, rfl, rfl, rfl, rfl, trivial⟩
              · have h := ifF hb60837 h
                refine WC.exit ?_
                refine WQ.thenE ?_
                refine WQ.thenE ?_
                refine WQ.blockE ?_
                have hS := hS.pick [] [] rfl
                exact WQ.toJ ⟨Option.some.inj h, rfl, hS⟩ trivial
          · rintro _ w ⟨rfl, rfl, hS⟩
            have h := h60791
            try dsimp only at h
            refine WC.seq ?_
            refine WC.reg ?_
            refine WL.val (R_assign rfl) rfl rfl ?_
            refine WL.nil ?_
            refine WQ.thenC ?_
            refine WC.ret ?_
            have hS0 := hS
            obtain rfl := Option.some.inj h
            exact ret_1 rfl rfl ⟨_, rfl, hS.bel, rfl⟩

def bins_Back_l0 (k : Nat) (p58195 : Binned) : Nat → (List ByteArray) → Int → Option (List ByteArray)
  | 0, _, _ => none
  | m + 1, y85322, y85323 =>
    if decide (y85323 < (p58195.bins.cuts.length : Int)) = true then (((strconv_Itoa y85323).bind fun r85361 =>
    if (⟨#[102]⟩ : ByteArray).size + r85361.size ≤ 9223372036854775807 then (if (y85322.length + 1) * 16 ≤ 140737488355328 then (some (y85322 ++ [((⟨#[102]⟩ : ByteArray) ++ r85361)])) else none) else none : Option (List ByteArray)).bind fun y85357 =>
    bins_Back_l0 k p58195 m y85357 (IntKind.i64.wrap (y85323 + (1 : Int)))) else (some y85322)

def bins_Back_l3 (k : Nat) (x116221 : BinNode) (p58195 : Binned) : Nat → (List Int) → Int → Option (Nat × (List Int))
  | 0, _, _ => none
  | m + 1, y116514, y116515 =>
    if decide (y116515 < (x116221.cats.length : Int)) = true then (((rd x116221.cats y116515).bind fun x116625 =>
    (rd p58195.bins.cats x116221.feature).bind fun x116633 =>
    (rd x116633 x116625).bind fun x116644 =>
    if (y116514.length + 1) * 8 ≤ 140737488355328 then (some (y116514 ++ [x116644])) else none : Option (List Int)).bind fun y116621 =>
    bins_Back_l3 k x116221 p58195 m y116621 (IntKind.i64.wrap (y116515 + (1 : Int)))) else (some ((0 : Nat), y116514))

def bins_Back_l2 (k : Nat) (x112803 : BinTree) (p58195 : Binned) : Nat → (List Node) → Int → Option (Fl (Fl (Fl (Ensemble × Int) (List Tree)) (List Tree)) (List Node))
  | 0, _, _ => none
  | m + 1, y115087, y115088 =>
    if decide (y115088 < (x112803.nodes.length : Int)) = true then (((rd x112803.nodes y115088).bind fun x116221 =>
    (bins_placed k p58195.bins x116221).bind fun r116233 =>
    if (!r116233) = true then (((((some ((⟨(⟨#[]⟩ : ByteArray), [], (0 : Int), [], []⟩ : Ensemble), (200 : Int))).map Fl.ret).map Fl.ret).map Fl.ret).map Fl.ret) else ((if decide (x116221.kind = (2 : Int)) = true then ((rd p58195.bins.cuts x116221.feature).bind fun x116418 =>
    (rd x116418 x116221.rank).bind fun x116429 =>
    if (([] : List Int).length + x116221.cats.length) * 8 ≤ 140737488355328 then (some (x116429, (([] : List Int) ++ x116221.cats))) else none) else (if decide (x116221.kind = (3 : Int)) = true then (bins_Back_l3 k x116221 p58195 k ([] : List Int) (0 : Int)) else (if (([] : List Int).length + x116221.cats.length) * 8 ≤ 140737488355328 then (some ((0 : Nat), (([] : List Int) ++ x116221.cats))) else none)) : Option (Nat × (List Int))).bind fun ⟨y116409, y116413⟩ =>
    if (y115087.length + 1) * 80 ≤ 140737488355328 then (some (.go (y115087 ++ [(⟨x116221.kind, x116221.value, x116221.feature, y116409, y116413, x116221.missing, x116221.left, x116221.right⟩ : Node)]))) else none) : Option (Fl (Fl (Fl (Fl (Ensemble × Int) (List Tree)) (List Tree)) (List Node)) (List Node))).bind fun o => match o with
    | .ret r => some r
    | .go y116217 =>
    (bins_Back_l2 k x112803 p58195 m y116217 (IntKind.i64.wrap (y115088 + (1 : Int))))) else (some (.go y115087))

def bins_Back_l1 (k : Nat) (p58195 : Binned) : Nat → (List Tree) → Int → Option (Fl (Ensemble × Int) (List Tree))
  | 0, _, _ => none
  | m + 1, y103659, y103660 =>
    if decide (y103660 < (p58195.trees.length : Int)) = true then (((rd p58195.trees y103660).bind fun x112803 =>
    (bins_Back_l2 k x112803 p58195 k ([] : List Node) (0 : Int) : Option (Fl (Fl (Fl (Ensemble × Int) (List Tree)) (List Tree)) (List Node))).bind fun o => match o with
    | .ret r => some r
    | .go y114328 =>
    (if (y103659.length + 1) * 32 ≤ 140737488355328 then (some (.go (y103659 ++ [(⟨x112803.output, y114328⟩ : Tree)]))) else none) : Option (Fl (Fl (Ensemble × Int) (List Tree)) (List Tree))).bind fun o => match o with
    | .ret r => some r
    | .go y112799 =>
    (bins_Back_l1 k p58195 m y112799 (IntKind.i64.wrap (y103660 + (1 : Int))))) else (some (.go y103659))

def bins_Back (k : Nat) (p58195 : Binned) : Option (Ensemble × Int) :=
    (bins_Right k p58195.bins).bind fun r85222 =>
    if (!r85222) = true then (some ((⟨(⟨#[]⟩ : ByteArray), [], (0 : Int), [], []⟩ : Ensemble), (200 : Int))) else ((if (([] : List Int).length + p58195.base.length) * 8 ≤ 140737488355328 then (some (([] : List Int) ++ p58195.base)) else none : Option (List Int)).bind fun y85233 =>
    (bins_Back_l0 k p58195 k ([] : List ByteArray) (0 : Int) : Option (List ByteArray)).bind fun y85293 =>
    (bins_Back_l1 k p58195 k ([] : List Tree) (0 : Int) : Option (Fl (Ensemble × Int) (List Tree))).bind fun o => match o with
    | .ret r => some r
    | .go y97560 =>
    ((rules_Valid k (⟨(⟨#[98, 105, 110, 110, 101, 100]⟩ : ByteArray), y85293, p58195.outputs, y85233, y97560⟩ : Ensemble)).bind fun r116667 =>
    if (!r116667) = true then (some ((⟨(⟨#[]⟩ : ByteArray), [], (0 : Int), [], []⟩ : Ensemble), (5 : Int))) else (some ((⟨(⟨#[98, 105, 110, 110, 101, 100]⟩ : ByteArray), y85293, p58195.outputs, y85233, y97560⟩ : Ensemble), (0 : Int)))))

end TK

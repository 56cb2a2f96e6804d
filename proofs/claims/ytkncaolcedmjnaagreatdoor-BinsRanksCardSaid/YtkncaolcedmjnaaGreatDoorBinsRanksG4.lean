/- What the functions that the law comes to compute, as plain functions with fuel, and that calls of them return it: part 4. -/
import Derived.Test.YtkncaolcedmjnaaGreatDoorTk15
import Derived.Test.YtkncaolcedmjnaaGreatDoorProg
import Derived.Test.YtkncaolcedmjnaaGreatDoorBinsRanksG3
open Go Go.RowKit TK
open Go.Proofs
set_option maxRecDepth 100000
namespace TK
theorem bins_Back_ok {w0 : World} {M : MSet} (hM : ∀ k, M k → k < w0.heap.size) (k : Nat) (p58195 : Binned) {A58196 : Option Addr} {c58197 : Nat} (hs58198 : p58195.bins.cuts.length ≤ c58197 ∧ Sl (RSl RF) M w0 A58196 p58195.bins.cuts) {A58199 : Option Addr} {c58200 : Nat} (hs58201 : p58195.bins.cats.length ≤ c58200 ∧ Sl (RSl (RI .i64)) M w0 A58199 p58195.bins.cats) {A58202 : Option Addr} {c58203 : Nat} (hs58204 : p58195.base.length ≤ c58203 ∧ Sl (RI .i64) M w0 A58202 p58195.base) {A58205 : Option Addr} {c58206 : Nat} (hs58207 : p58195.trees.length ≤ c58206 ∧ Sl RBinTree M w0 A58205 p58195.trees) (r1 : Ensemble) (r2 : Int) (h : bins_Back k p58195 = some (r1, r2)) :
    Calls Tryz.prog 136 #[.agg #[.slice A58196 p58195.bins.cuts.length c58197, .slice A58199 p58195.bins.cats.length c58200, .int .i64 p58195.outputs, .slice A58202 p58195.base.length c58203, .slice A58205 p58195.trees.length c58206]] w0 (Gives w0 fun v w' => ∃ (A0_1 : Option Addr), ∃ (c0_1 : Nat), ∃ (A0_3 : Option Addr), ∃ (c0_3 : Nat), ∃ (A0_4 : Option Addr), ∃ (c0_4 : Nat), v = .tuple #[.agg #[.string r1.name, .slice A0_1 r1.features.length c0_1, .int .i64 r1.outputs, .slice A0_3 r1.base.length c0_3, .slice A0_4 r1.trees.length c0_4], .int .i64 r2] ∧ (r1.features.length ≤ c0_1 ∧ Sl RStr M w' A0_1 r1.features) ∧ (r1.base.length ≤ c0_3 ∧ Sl (RI .i64) M w' A0_3 r1.base) ∧ (r1.trees.length ≤ c0_4 ∧ Sl RTree M w' A0_4 r1.trees)) := by
  have hS := Sta.init hM
  have hS := hS.arg hs58198
  have hS := hS.arg hs58201
  have hS := hS.arg hs58204
  have hS := hS.arg hs58207
  unfold bins_Back at h
  refine calls_enter (n := 0) Tryz.func136 rfl [(0, .agg #[.slice A58196 p58195.bins.cuts.length c58197, .slice A58199 p58195.bins.cats.length c58200, .int .i64 p58195.outputs, .slice A58202 p58195.base.length c58203, .slice A58205 p58195.trees.length c58206])] rfl rfl ⟨rfl, trivial⟩ ?_
  refine WC.seq ?_
  refine WC.reg ?_
  refine WL.box [.slice A58196 p58195.bins.cuts.length c58197, .slice A58199 p58195.bins.cats.length c58200, .int .i64 p58195.outputs, .slice A58202 p58195.base.length c58203, .slice A58205 p58195.trees.length c58206] rfl rfl hS rfl ?_
  intro b85220 w hS
  refine WL.alloc _ z26 rfl hS rfl ?_
  intro b85221 w hS
  refine WL.val (R_assign rfl) rfl rfl ?_
  refine WL.nil ?_
  refine WQ.thenC ?_
  refine WC.seq ?_
  refine WC.seq ?_
  refine WC.reg ?_
  refine WL.val (R_fieldB o147_0 rfl) rfl rfl ?_
  refine WL.val (R_loadA g70 rfl rfl (hS.cells 1 (o := 0) (m := 2) rfl rfl)) rfl rfl ?_
  obtain ⟨r85222, hr85223, h⟩ := bindS h
  refine WL.call e30 rfl rfl hS (bins_Right_ok (hS).mx_lt k p58195.bins (hS.sl 3 rfl) (hS.sl 2 rfl) _ hr85223) rfl ?_
  intro v w hB hS hP
  obtain ⟨rfl⟩ := hP
  refine WL.val (R_not rfl) rfl rfl ?_
  refine WL.nil ?_
  refine WQ.thenC ?_
  refine WC.cond rfl (fun hb85224 => ?_) (fun hb85224 => ?_)
  · have h := ifT hb85224 h
    refine WC.seq ?_
    refine WC.reg ?_
    refine WL.val (R_build (cells := #[.string (⟨#[]⟩ : ByteArray), .slice none 0 0, .int .i64 (0 : Int), .slice none 0 0, .slice none 0 0]) rfl (by kernel_rfl)) rfl rfl ?_
    refine WL.storeB 0 [.string (⟨#[]⟩ : ByteArray), .slice none 0 0, .int .i64 (0 : Int), .slice none 0 0, .slice none 0 0] g26 hS rfl rfl rfl rfl rfl rfl rfl [.string (⟨#[]⟩ : ByteArray), .slice none 0 0, .int .i64 (0 : Int), .slice none 0 0, .slice none 0 0] rfl ?_
    intro w hS
    refine WL.val (R_assign rfl) rfl rfl ?_
    refine WL.nil ?_
    refine WQ.thenC ?_
    refine WC.ret ?_
    refine WQ.thenR ?_
    have hS0 := hS
    have h := Option.some.inj h
    obtain ⟨rfl, rfl⟩ := Prod.mk.inj h
    exact ret_2 rfl (resV_B 0 hS0 rfl rfl g26 rfl) rfl ⟨_, rfl, hS.bel, ⟨none, 0, none, 0, none, 0, rfl, slnil, slnil, slnil⟩⟩
  · have h := ifF hb85224 h
    refine WC.skip ?_
    refine WQ.thenC ?_
    obtain ⟨o85234, h85235, h85236⟩ := bindS h
    refine WC.seqM (fun env w => ∃ (y85233 : List Int), ∃ (b85229 : Nat), ∃ (A85230 : Option Addr), ∃ (n85231 : Nat), ∃ (c85232 : Nat), y85233 = o85234 ∧ env = [(1, .pointer (some ⟨b85220, 0, none⟩)), (2, .pointer (some ⟨b85221, 0, none⟩)), (4, .pointer (some ⟨b85229, 0, none⟩))] ∧ Sta w0 M [Blk b85220 [.slice A58196 p58195.bins.cuts.length c58197, .slice A58199 p58195.bins.cats.length c58200, .int .i64 p58195.outputs, .slice A58202 p58195.base.length c58203, .slice A58205 p58195.trees.length c58206] 147, Blk b85221 [.string (⟨#[]⟩ : ByteArray), .slice none 0 0, .int .i64 (0 : Int), .slice none 0 0, .slice none 0 0] 26, Blk b85229 [.string (⟨#[98, 105, 110, 110, 101, 100]⟩ : ByteArray), .slice none 0 0, .int .i64 p58195.outputs, .slice A85230 n85231 c85232, .slice none 0 0] 26, Row (RI .i64) 2 (.slice A85230 n85231 c85232) y85233] [FSl (RSl RF) A58196 c58197 p58195.bins.cuts, FSl (RSl (RI .i64)) A58199 c58200 p58195.bins.cats, FSl (RI .i64) A58202 c58203 p58195.base, FSl RBinTree A58205 c58206 p58195.trees] w) ?_ ?_
    · have h := h85235
      obtain ⟨hg85237, h⟩ := grdS h
      refine WC.held (Sta w0 M [Blk b85221 [.string (⟨#[]⟩ : ByteArray), .slice none 0 0, .int .i64 (0 : Int), .slice none 0 0, .slice none 0 0] 26, Blk b85220 [.slice A58196 p58195.bins.cuts.length c58197, .slice A58199 p58195.bins.cats.length c58200, .int .i64 p58195.outputs, .slice A58202 p58195.base.length c58203, .slice A58205 p58195.trees.length c58206] 147] [FSl RBinTree A58205 c58206 p58195.trees, FSl (RI .i64) A58202 c58203 p58195.base, FSl (RSl (RI .i64)) A58199 c58200 p58195.bins.cats, FSl (RSl RF) A58196 c58197 p58195.bins.cuts]) fol hS rfl ?_
      intro w hS
      refine HL.val 0 #[true, false, false, false, false, false, false, false] rfl (by kernel_rfl) (by kernel_rfl) (by kernel_rfl) rfl rfl (hS.pick [0, 1] [0, 1, 2, 3] rfl) (fun w hS => R_fieldB o147_1 rfl) ?_
      refine HL.val 1 #[true, true, false, false, false, false, false, false] rfl (by kernel_rfl) (by kernel_rfl) (by kernel_rfl) rfl rfl (hS.pick [0, 1] [0, 1, 2, 3] rfl) (fun w hS => R_load1 g3 rfl (hS.cell 1 rfl rfl)) ?_
      refine HL.val 2 #[true, true, true, false, false, false, false, false] rfl (by kernel_rfl) (by kernel_rfl) (by kernel_rfl) rfl rfl (hS.pick [0, 1] [0, 1, 2, 3] rfl) (fun w hS => R_fieldB o147_2 rfl) ?_
      refine HL.val 3 #[true, true, true, true, false, false, false, false] rfl (by kernel_rfl) (by kernel_rfl) (by kernel_rfl) rfl rfl (hS.pick [0, 1] [0, 1, 2, 3] rfl) (fun w hS => R_load1 g23 rfl (hS.cell 1 rfl rfl)) ?_
      refine HL.all [4, 6] (by kernel_rfl) rfl ⟨?_, ?_, trivial⟩
      · refine HO.of #[true, true, true, true, true, false, false, false] rfl rfl ?_
        have hS := hS.nilRow (RI .i64) 2
        refine WL.append (R := (RI .i64)) (zs := p58195.base) 0 u23 z2 rfl rfl rfl hS rfl rfl rfl rfl (Sl.src (hS.sl 1 rfl).2) hg85237 rfl rfl ?_
        intro A85238 c85239 w hS
        refine WL.nil ?_
        refine HL.next (hS.pick [1, 2] [0, 1, 2, 3] rfl) ?_
        refine HL.val 5 #[true, true, true, true, true, true, false, false] rfl (by kernel_rfl) (by kernel_rfl) (by kernel_rfl) rfl rfl (hS.pick [1, 2] [0, 1, 2, 3] rfl) (fun w hS => R_build (cells := #[.string (⟨#[98, 105, 110, 110, 101, 100]⟩ : ByteArray), .slice none 0 0, .int .i64 p58195.outputs, .slice A85238 ((([] : List Int) ++ p58195.base).length) c85239, .slice none 0 0]) rfl (by kernel_rfl)) ?_
        refine HL.all [6] (by kernel_rfl) rfl ⟨?_, trivial⟩
        refine HO.of #[true, true, true, true, true, true, true, false] rfl rfl ?_
        refine WL.alloc _ z26 rfl hS rfl ?_
        intro b85240 w hS
        refine WL.nil ?_
        refine HL.next (hS.pick [2, 3] [0, 1, 2, 3] rfl) ?_
        refine HL.all [7] (by kernel_rfl) rfl ⟨?_, trivial⟩
        refine HO.of #[true, true, true, true, true, true, true, true] rfl rfl ?_
        refine WL.storeB 0 [.string (⟨#[98, 105, 110, 110, 101, 100]⟩ : ByteArray), .slice none 0 0, .int .i64 p58195.outputs, .slice A85238 ((([] : List Int) ++ p58195.base).length) c85239, .slice none 0 0] g26 hS rfl rfl rfl rfl rfl rfl rfl [.string (⟨#[98, 105, 110, 110, 101, 100]⟩ : ByteArray), .slice none 0 0, .int .i64 p58195.outputs, .slice A85238 ((([] : List Int) ++ p58195.base).length) c85239, .slice none 0 0] rfl ?_
        intro w hS
        refine WL.nil ?_
        refine HL.next (hS.pick [2, 3] [0, 1, 2, 3] rfl) ?_
        refine HL.done (by kernel_rfl) (HL.keepQ ?_)
        have hS := hS.pick [3, 2, 0, 1] [3, 2, 1, 0] rfl
        exact WQ.toJ ⟨(([] : List Int) ++ p58195.base), b85240, A85238, (([] : List Int) ++ p58195.base).length, c85239, Option.some.inj h, rfl, hS⟩ ⟨rfl, rfl, rfl, trivial⟩
      · refine HO.of #[true, true, true, true, false, false, true, false] rfl rfl ?_
        refine WL.alloc _ z26 rfl hS rfl ?_
        intro b85240 w hS
        refine WL.nil ?_
        refine HL.next (hS.pick [1, 2] [0, 1, 2, 3] rfl) ?_
        refine HL.all [4] (by kernel_rfl) rfl ⟨?_, trivial⟩
        refine HO.of #[true, true, true, true, true, false, true, false] rfl rfl ?_
        have hS := hS.nilRow (RI .i64) 2
        refine WL.append (R := (RI .i64)) (zs := p58195.base) 0 u23 z2 rfl rfl rfl hS rfl rfl rfl rfl (Sl.src (hS.sl 1 rfl).2) hg85237 rfl rfl ?_
        intro A85238 c85239 w hS
        refine WL.nil ?_
        refine HL.next (hS.pick [2, 3] [0, 1, 2, 3] rfl) ?_
        refine HL.val 5 #[true, true, true, true, true, true, true, false] rfl (by kernel_rfl) (by kernel_rfl) (by kernel_rfl) rfl rfl (hS.pick [2, 3] [0, 1, 2, 3] rfl) (fun w hS => R_build (cells := #[.string (⟨#[98, 105, 110, 110, 101, 100]⟩ : ByteArray), .slice none 0 0, .int .i64 p58195.outputs, .slice A85238 ((([] : List Int) ++ p58195.base).length) c85239, .slice none 0 0]) rfl (by kernel_rfl)) ?_
        refine HL.all [7] (by kernel_rfl) rfl ⟨?_, trivial⟩
        refine HO.of #[true, true, true, true, true, true, true, true] rfl rfl ?_
        refine WL.storeB 1 [.string (⟨#[98, 105, 110, 110, 101, 100]⟩ : ByteArray), .slice none 0 0, .int .i64 p58195.outputs, .slice A85238 ((([] : List Int) ++ p58195.base).length) c85239, .slice none 0 0] g26 hS rfl rfl rfl rfl rfl rfl rfl [.string (⟨#[98, 105, 110, 110, 101, 100]⟩ : ByteArray), .slice none 0 0, .int .i64 p58195.outputs, .slice A85238 ((([] : List Int) ++ p58195.base).length) c85239, .slice none 0 0] rfl ?_
        intro w hS
        refine WL.nil ?_
        refine HL.next (hS.pick [2, 3] [0, 1, 2, 3] rfl) ?_
        refine HL.done (by kernel_rfl) (HL.keepQ ?_)
        have hS := hS.pick [3, 2, 1, 0] [3, 2, 1, 0] rfl
        exact WQ.toJ ⟨(([] : List Int) ++ p58195.base), b85240, A85238, (([] : List Int) ++ p58195.base).length, c85239, Option.some.inj h, rfl, hS⟩ ⟨rfl, rfl, rfl, trivial⟩
    · rintro _ w ⟨y85233, b85229, A85230, n85231, c85232, rfl, rfl, hS⟩
      have h := h85236
      try dsimp only at h
      obtain rfl := Row.len (hS.res 3 rfl)
      obtain ⟨o85294, h85295, h85296⟩ := bindS h
      refine WC.seqM (fun env w => ∃ (y85293 : List ByteArray), ∃ (A85290 : Option Addr), ∃ (n85291 : Nat), ∃ (c85292 : Nat), y85293 = o85294 ∧ env = [(1, .pointer (some ⟨b85220, 0, none⟩)), (2, .pointer (some ⟨b85221, 0, none⟩)), (4, .pointer (some ⟨b85229, 0, none⟩))] ∧ Sta w0 M [Blk b85220 [.slice A58196 p58195.bins.cuts.length c58197, .slice A58199 p58195.bins.cats.length c58200, .int .i64 p58195.outputs, .slice A58202 p58195.base.length c58203, .slice A58205 p58195.trees.length c58206] 147, Blk b85221 [.string (⟨#[]⟩ : ByteArray), .slice none 0 0, .int .i64 (0 : Int), .slice none 0 0, .slice none 0 0] 26, Blk b85229 [.string (⟨#[98, 105, 110, 110, 101, 100]⟩ : ByteArray), .slice A85290 n85291 c85292, .int .i64 p58195.outputs, .slice A85230 y85233.length c85232, .slice none 0 0] 26, Row RStr 9 (.slice A85290 n85291 c85292) y85293, Row (RI .i64) 2 (.slice A85230 y85233.length c85232) y85233] [FSl (RSl RF) A58196 c58197 p58195.bins.cuts, FSl (RSl (RI .i64)) A58199 c58200 p58195.bins.cats, FSl (RI .i64) A58202 c58203 p58195.base, FSl RBinTree A58205 c58206 p58195.trees] w) ?_ ?_
      · have h := h85295
        refine WC.seq ?_
        refine WC.reg ?_
        refine WL.val (R_fieldB o147_0 rfl) rfl rfl ?_
        refine WL.val (R_fieldB o70_0 rfl) rfl rfl ?_
        refine WL.val (R_load1 g62 rfl (hS.cell 0 rfl rfl)) rfl rfl ?_
        refine WL.val (R_lenS u62 rfl) rfl rfl ?_
        refine WL.val (R_move rfl) rfl rfl ?_
        refine WL.nil ?_
        refine WQ.thenC ?_
        refine WC.block ?_
        have hS := hS.nilRow RStr 9
        have hS := hS.pick [1, 2, 3, 0, 4] [0, 1, 2, 3] rfl
        refine WC.loopJ (fun m env w => ∃ (y85322 : List ByteArray), ∃ (y85323 : Int), ∃ (A85319 : Option Addr), ∃ (n85320 : Nat), ∃ (c85321 : Nat), env = [(1, .pointer (some ⟨b85220, 0, none⟩)), (2, .pointer (some ⟨b85221, 0, none⟩)), (4, .pointer (some ⟨b85229, 0, none⟩)), (28, .int .i64 (p58195.bins.cuts.length : Int)), (29, .int .i64 y85323)] ∧ Sta w0 M [Blk b85220 [.slice A58196 p58195.bins.cuts.length c58197, .slice A58199 p58195.bins.cats.length c58200, .int .i64 p58195.outputs, .slice A58202 p58195.base.length c58203, .slice A58205 p58195.trees.length c58206] 147, Blk b85221 [.string (⟨#[]⟩ : ByteArray), .slice none 0 0, .int .i64 (0 : Int), .slice none 0 0, .slice none 0 0] 26, Blk b85229 [.string (⟨#[98, 105, 110, 110, 101, 100]⟩ : ByteArray), .slice A85319 n85320 c85321, .int .i64 p58195.outputs, .slice A85230 y85233.length c85232, .slice none 0 0] 26, Row RStr 9 (.slice A85319 n85320 c85321) y85322, Row (RI .i64) 2 (.slice A85230 y85233.length c85232) y85233] [FSl (RSl RF) A58196 c58197 p58195.bins.cuts, FSl (RSl (RI .i64)) A58199 c58200 p58195.bins.cats, FSl (RI .i64) A58202 c58203 p58195.base, FSl RBinTree A58205 c58206 p58195.trees] w ∧ bins_Back_l0 k p58195 m y85322 y85323 = some o85294) k ⟨([] : List ByteArray), (0 : Int), none, 0, 0, rfl, hS, h⟩ ⟨rfl, rfl, rfl, rfl, rfl, trivial⟩ (fun env w hI => ?_) (fun m env w hI => ?_)
        · obtain ⟨y85322, y85323, A85319, n85320, c85321, rfl, hS, h⟩ := hI
          rw [bins_Back_l0] at h
          cases h
        · obtain ⟨y85322, y85323, A85319, n85320, c85321, rfl, hS, h⟩ := hI
          rw [bins_Back_l0] at h
          obtain rfl := Row.len (hS.res 3 rfl)
          refine WC.seq ?_
          refine WC.reg ?_
          refine WL.val (R_cmp rfl rfl rfl) rfl rfl ?_
          refine WL.nil ?_
          refine WQ.thenC ?_
          refine WC.seq ?_
          refine WC.cond rfl (fun hb85346 => ?_) (fun hb85346 => ?_)
          · have h := ifT hb85346 h
            refine WC.skip ?_
            refine WQ.thenC ?_
            obtain ⟨o85358, h85359, h85360⟩ := bindS h
            refine WC.seqM (fun env w => ∃ (y85357 : List ByteArray), ∃ (A85354 : Option Addr), ∃ (n85355 : Nat), ∃ (c85356 : Nat), y85357 = o85358 ∧ env = [(1, .pointer (some ⟨b85220, 0, none⟩)), (2, .pointer (some ⟨b85221, 0, none⟩)), (4, .pointer (some ⟨b85229, 0, none⟩)), (28, .int .i64 (p58195.bins.cuts.length : Int)), (29, .int .i64 y85323)] ∧ Sta w0 M [Blk b85220 [.slice A58196 p58195.bins.cuts.length c58197, .slice A58199 p58195.bins.cats.length c58200, .int .i64 p58195.outputs, .slice A58202 p58195.base.length c58203, .slice A58205 p58195.trees.length c58206] 147, Blk b85221 [.string (⟨#[]⟩ : ByteArray), .slice none 0 0, .int .i64 (0 : Int), .slice none 0 0, .slice none 0 0] 26, Blk b85229 [.string (⟨#[98, 105, 110, 110, 101, 100]⟩ : ByteArray), .slice A85354 n85355 c85356, .int .i64 p58195.outputs, .slice A85230 y85233.length c85232, .slice none 0 0] 26, Row RStr 9 (.slice A85354 n85355 c85356) y85357, Row (RI .i64) 2 (.slice A85230 y85233.length c85232) y85233] [FSl (RSl RF) A58196 c58197 p58195.bins.cuts, FSl (RSl (RI .i64)) A58199 c58200 p58195.bins.cats, FSl (RI .i64) A58202 c58203 p58195.base, FSl RBinTree A58205 c58206 p58195.trees] w) ?_ ?_
            · have h := h85359
              refine WC.block ?_
              refine WC.seq ?_
              refine WC.reg ?_
              refine WL.val (R_move rfl) rfl rfl ?_
              refine WL.val (R_assign rfl) rfl rfl ?_
              refine WL.nil ?_
              refine WQ.thenC ?_
              obtain ⟨r85361, hr85362, h⟩ := bindS h
              obtain ⟨hg85363, h⟩ := grdS h
              obtain ⟨hg85365, h⟩ := grdS h
              refine WC.held (Sta w0 M [Blk b85220 [.slice A58196 p58195.bins.cuts.length c58197, .slice A58199 p58195.bins.cats.length c58200, .int .i64 p58195.outputs, .slice A58202 p58195.base.length c58203, .slice A58205 p58195.trees.length c58206] 147, Blk b85221 [.string (⟨#[]⟩ : ByteArray), .slice none 0 0, .int .i64 (0 : Int), .slice none 0 0, .slice none 0 0] 26, Row (RI .i64) 2 (.slice A85230 y85233.length c85232) y85233] [FSl (RSl RF) A58196 c58197 p58195.bins.cuts, FSl (RSl (RI .i64)) A58199 c58200 p58195.bins.cats, FSl (RI .i64) A58202 c58203 p58195.base, FSl RBinTree A58205 c58206 p58195.trees]) fol hS rfl ?_
              intro w hS
              refine HL.val 0 #[true, false, false, false, false, false, false, false, false] rfl (by kernel_rfl) (by kernel_rfl) (by kernel_rfl) rfl rfl (hS.pick [0, 1, 4] [0, 1, 2, 3] rfl) (fun w hS => R_fieldB o26_1 rfl) ?_
              refine HL.val 2 #[true, false, true, false, false, false, false, false, false] rfl (by kernel_rfl) (by kernel_rfl) (by kernel_rfl) rfl rfl (hS.pick [0, 1, 4] [0, 1, 2, 3] rfl) (fun w hS => R_move rfl) ?_
              refine HL.all [1, 3] (by kernel_rfl) rfl ⟨?_, ?_, trivial⟩
              · refine HO.of #[true, true, true, false, false, false, false, false, false] rfl rfl ?_
                refine WL.val (R_load1 g22 rfl (hS.cell 2 rfl rfl)) rfl rfl ?_
                refine WL.nil ?_
                refine HL.next (hS.pick [0, 1, 4] [0, 1, 2, 3] rfl) ?_
                refine HL.all [3] (by kernel_rfl) rfl ⟨?_, trivial⟩
                refine HO.of #[true, true, true, true, false, false, false, false, false] rfl rfl ?_
                refine WL.call e185 rfl rfl hS (strconv_Itoa_ok (hS).mx_lt y85323  _ hr85362) rfl ?_
                intro v w hB hS hP
                obtain ⟨rfl⟩ := hP
                refine WL.nil ?_
                refine HL.next (hS.pick [0, 1, 4] [0, 1, 2, 3] rfl) ?_
                refine HL.val 4 #[true, true, true, true, true, false, false, false, false] rfl (by kernel_rfl) (by kernel_rfl) (by kernel_rfl) rfl rfl (hS.pick [0, 1, 4] [0, 1, 2, 3] rfl) (fun w hS => R_cat rfl rfl hg85363) ?_
                refine HL.all [5] (by kernel_rfl) rfl ⟨?_, trivial⟩
                refine HO.of #[true, true, true, true, true, true, false, false, false] rfl rfl ?_
                refine WL.lit [.string ((⟨#[102]⟩ : ByteArray) ++ r85361)] u22 rfl (by kernel_rfl) hS rfl ?_
                intro b85364 w hS
                refine WL.nil ?_
                refine HL.next (hS.pick [1, 2, 5] [0, 1, 2, 3] rfl) ?_
                refine HL.all [6] (by kernel_rfl) rfl ⟨?_, trivial⟩
                refine HO.of #[true, true, true, true, true, true, true, false, false] rfl rfl ?_
                refine WL.append (R := RStr) (zs := [((⟨#[102]⟩ : ByteArray) ++ r85361)]) 4 u22 z9 rfl rfl rfl hS rfl rfl rfl rfl (Blk.src (hS.res 0 rfl) ⟨[_], _, rfl, rfl, rfl⟩) hg85365 rfl rfl ?_
                intro A85366 c85367 w hS
                refine WL.nil ?_
                refine HL.next (hS.pick [1, 2, 5] [0, 1, 2, 3] rfl) ?_
                refine HL.val 7 #[true, true, true, true, true, true, true, true, false] rfl (by kernel_rfl) (by kernel_rfl) (by kernel_rfl) rfl rfl (hS.pick [1, 2, 5] [0, 1, 2, 3] rfl) (fun w hS => R_fieldB o26_1 rfl) ?_
                refine HL.all [8] (by kernel_rfl) rfl ⟨?_, trivial⟩
                refine HO.of #[true, true, true, true, true, true, true, true, true] rfl rfl ?_
                refine WL.storeB 3 [.slice A85366 ((y85322 ++ [((⟨#[102]⟩ : ByteArray) ++ r85361)]).length) c85367] g22 hS rfl rfl rfl rfl rfl rfl rfl [.string (⟨#[98, 105, 110, 110, 101, 100]⟩ : ByteArray), .slice A85366 ((y85322 ++ [((⟨#[102]⟩ : ByteArray) ++ r85361)]).length) c85367, .int .i64 p58195.outputs, .slice A85230 y85233.length c85232, .slice none 0 0] rfl ?_
                intro w hS
                refine WL.nil ?_
                refine HL.next (hS.pick [1, 2, 5] [0, 1, 2, 3] rfl) ?_
                refine HL.done (by kernel_rfl) (HL.keepQ ?_)
                refine WQ.blockN ?_
                have hS := hS.pick [1, 2, 3, 4, 5] [0, 1, 2, 3] rfl
                exact WQ.toJ ⟨(y85322 ++ [((⟨#[102]⟩ : ByteArray) ++ r85361)]), A85366, (y85322 ++ [((⟨#[102]⟩ : ByteArray) ++ r85361)]).length, c85367, Option.some.inj h, rfl, hS⟩ ⟨rfl, rfl, rfl, rfl, rfl, trivial⟩
              · refine HO.of #[true, false, true, true, false, false, false, false, false] rfl rfl ?_
                refine WL.call e185 rfl rfl hS (strconv_Itoa_ok (hS).mx_lt y85323  _ hr85362) rfl ?_
                intro v w hB hS hP
                obtain ⟨rfl⟩ := hP
                refine WL.nil ?_
                refine HL.next (hS.pick [0, 1, 4] [0, 1, 2, 3] rfl) ?_
                refine HL.val 4 #[true, false, true, true, true, false, false, false, false] rfl (by kernel_rfl) (by kernel_rfl) (by kernel_rfl) rfl rfl (hS.pick [0, 1, 4] [0, 1, 2, 3] rfl) (fun w hS => R_cat rfl rfl hg85363) ?_
                refine HL.all [1, 5] (by kernel_rfl) rfl ⟨?_, ?_, trivial⟩
                · refine HO.of #[true, true, true, true, true, false, false, false, false] rfl rfl ?_
                  refine WL.val (R_load1 g22 rfl (hS.cell 2 rfl rfl)) rfl rfl ?_
                  refine WL.nil ?_
                  refine HL.next (hS.pick [0, 1, 4] [0, 1, 2, 3] rfl) ?_
                  refine HL.all [5] (by kernel_rfl) rfl ⟨?_, trivial⟩
                  refine HO.of #[true, true, true, true, true, true, false, false, false] rfl rfl ?_
                  refine WL.lit [.string ((⟨#[102]⟩ : ByteArray) ++ r85361)] u22 rfl (by kernel_rfl) hS rfl ?_
                  intro b85364 w hS
                  refine WL.nil ?_
                  refine HL.next (hS.pick [1, 2, 5] [0, 1, 2, 3] rfl) ?_
                  refine HL.all [6] (by kernel_rfl) rfl ⟨?_, trivial⟩
                  refine HO.of #[true, true, true, true, true, true, true, false, false] rfl rfl ?_
                  refine WL.append (R := RStr) (zs := [((⟨#[102]⟩ : ByteArray) ++ r85361)]) 4 u22 z9 rfl rfl rfl hS rfl rfl rfl rfl (Blk.src (hS.res 0 rfl) ⟨[_], _, rfl, rfl, rfl⟩) hg85365 rfl rfl ?_
                  intro A85366 c85367 w hS
                  refine WL.nil ?_
                  refine HL.next (hS.pick [1, 2, 5] [0, 1, 2, 3] rfl) ?_
                  refine HL.val 7 #[true, true, true, true, true, true, true, true, false] rfl (by kernel_rfl) (by kernel_rfl) (by kernel_rfl) rfl rfl (hS.pick [1, 2, 5] [0, 1, 2, 3] rfl) (fun w hS => R_fieldB o26_1 rfl) ?_
                  refine HL.all [8] (by kernel_rfl) rfl ⟨?_, trivial⟩
                  refine HO.of #[true, true, true, true, true, true, true, true, true] rfl rfl ?_
                  refine WL.storeB 3 [.slice A85366 ((y85322 ++ [((⟨#[102]⟩ : ByteArray) ++ r85361)]).length) c85367] g22 hS rfl rfl rfl rfl rfl rfl rfl [.string (⟨#[98, 105, 110, 110, 101, 100]⟩ : ByteArray), .slice A85366 ((y85322 ++ [((⟨#[102]⟩ : ByteArray) ++ r85361)]).length) c85367, .int .i64 p58195.outputs, .slice A85230 y85233.length c85232, .slice none 0 0] rfl ?_
                  intro w hS
                  refine WL.nil ?_
                  refine HL.next (hS.pick [1, 2, 5] [0, 1, 2, 3] rfl) ?_
                  refine HL.done (by kernel_rfl) (HL.keepQ ?_)
                  refine WQ.blockN ?_
                  have hS := hS.pick [1, 2, 3, 4, 5] [0, 1, 2, 3] rfl
                  exact WQ.toJ ⟨(y85322 ++ [((⟨#[102]⟩ : ByteArray) ++ r85361)]), A85366, (y85322 ++ [((⟨#[102]⟩ : ByteArray) ++ r85361)]).length, c85367, Option.some.inj h, rfl, hS⟩ ⟨rfl, rfl, rfl, rfl, rfl, trivial⟩
                · refine HO.of #[true, false, true, true, true, true, false, false, false] rfl rfl ?_
                  refine WL.lit [.string ((⟨#[102]⟩ : ByteArray) ++ r85361)] u22 rfl (by kernel_rfl) hS rfl ?_
                  intro b85364 w hS
                  refine WL.nil ?_
                  refine HL.next (hS.pick [1, 2, 5] [0, 1, 2, 3] rfl) ?_
                  refine HL.all [1] (by kernel_rfl) rfl ⟨?_, trivial⟩
                  refine HO.of #[true, true, true, true, true, true, false, false, false] rfl rfl ?_
                  refine WL.val (R_load1 g22 rfl (hS.cell 3 rfl rfl)) rfl rfl ?_
                  refine WL.nil ?_
                  refine HL.next (hS.pick [1, 2, 5] [0, 1, 2, 3] rfl) ?_
                  refine HL.all [6] (by kernel_rfl) rfl ⟨?_, trivial⟩
                  refine HO.of #[true, true, true, true, true, true, true, false, false] rfl rfl ?_
                  refine WL.append (R := RStr) (zs := [((⟨#[102]⟩ : ByteArray) ++ r85361)]) 4 u22 z9 rfl rfl rfl hS rfl rfl rfl rfl (Blk.src (hS.res 0 rfl) ⟨[_], _, rfl, rfl, rfl⟩) hg85365 rfl rfl ?_
                  intro A85366 c85367 w hS
                  refine WL.nil ?_
                  refine HL.next (hS.pick [1, 2, 5] [0, 1, 2, 3] rfl) ?_
                  refine HL.val 7 #[true, true, true, true, true, true, true, true, false] rfl (by kernel_rfl) (by kernel_rfl) (by kernel_rfl) rfl rfl (hS.pick [1, 2, 5] [0, 1, 2, 3] rfl) (fun w hS => R_fieldB o26_1 rfl) ?_
                  refine HL.all [8] (by kernel_rfl) rfl ⟨?_, trivial⟩
                  refine HO.of #[true, true, true, true, true, true, true, true, true] rfl rfl ?_
                  refine WL.storeB 3 [.slice A85366 ((y85322 ++ [((⟨#[102]⟩ : ByteArray) ++ r85361)]).length) c85367] g22 hS rfl rfl rfl rfl rfl rfl rfl [.string (⟨#[98, 105, 110, 110, 101, 100]⟩ : ByteArray), .slice A85366 ((y85322 ++ [((⟨#[102]⟩ : ByteArray) ++ r85361)]).length) c85367, .int .i64 p58195.outputs, .slice A85230 y85233.length c85232, .slice none 0 0] rfl ?_
                  intro w hS
                  refine WL.nil ?_
                  refine HL.next (hS.pick [1, 2, 5] [0, 1, 2, 3] rfl) ?_
                  refine HL.done (by kernel_rfl) (HL.keepQ ?_)
                  refine WQ.blockN ?_
                  have hS := hS.pick [1, 2, 3, 4, 5] [0, 1, 2, 3] rfl
                  exact WQ.toJ ⟨(y85322 ++ [((⟨#[102]⟩ : ByteArray) ++ r85361)]), A85366, (y85322 ++ [((⟨#[102]⟩ : ByteArray) ++ r85361)]).length, c85367, Option.some.inj h, rfl, hS⟩ ⟨rfl, rfl, rfl, rfl, rfl, trivial⟩
            · rintro _ w ⟨y85357, A85354, n85355, c85356, rfl, rfl, hS⟩
              have h := h85360
              try dsimp only at h
              obtain rfl := Row.len (hS.res 3 rfl)
              refine WC.reg ?_
              refine WL.val (R_ar rfl rfl rfl) rfl rfl ?_
              refine WL.val (R_move rfl) rfl rfl ?_
              refine WL.nil ?_
              have hS := hS.pick [0, 1, 2, 3, 4] [0, 1, 2, 3] rfl
              exact WQ.toJ ⟨y85357, (IntKind.i64.wrap (y85323 + (1 : Int))), A85354, y85357.length, c85356, rfl, hS, h⟩ ⟨rfl, rfl, rfl, rfl, rfl, trivial⟩
          · have h := ifF hb85346 h
            refine WC.exit ?_
            refine WQ.thenE ?_
            refine WQ.thenE ?_
            refine WQ.blockE ?_
            have hS := hS.pick [0, 1, 2, 3, 4] [0, 1, 2, 3] rfl
            exact WQ.toJ ⟨y85322, A85319, y85322.length, c85321, Option.some.inj h, rfl, hS⟩ ⟨rfl, rfl, rfl, trivial⟩
      · rintro _ w ⟨y85293, A85290, n85291, c85292, rfl, rfl, hS⟩
        have h := h85296
        try dsimp only at h
        obtain rfl := Row.len (hS.res 3 rfl)
        obtain ⟨o97561, h97562, h97563⟩ := bindS h
        refine WC.seqM (fun env w => ∃ (y97560 : List Tree), ∃ (A97557 : Option Addr), ∃ (n97558 : Nat), ∃ (c97559 : Nat), Fl.go y97560 = o97561 ∧ env = [(2, .pointer (some ⟨b85221, 0, none⟩)), (4, .pointer (some ⟨b85229, 0, none⟩))] ∧ Sta w0 M [Blk b85221 [.string (⟨#[]⟩ : ByteArray), .slice none 0 0, .int .i64 (0 : Int), .slice none 0 0, .slice none 0 0] 26, Blk b85229 [.string (⟨#[98, 105, 110, 110, 101, 100]⟩ : ByteArray), .slice A85290 y85293.length c85292, .int .i64 p58195.outputs, .slice A85230 y85233.length c85232, .slice A97557 n97558 c97559] 26, Row RStr 9 (.slice A85290 y85293.length c85292) y85293, Row (RI .i64) 2 (.slice A85230 y85233.length c85232) y85233, Row RTree 52 (.slice A97557 n97558 c97559) y97560] [] w) ?_ ?_
        · have h := h97562
          refine WC.seq ?_
          refine WC.reg ?_
          refine WL.val (R_fieldB o147_3 rfl) rfl rfl ?_
          refine WL.val (R_load1 g145 rfl (hS.cell 0 rfl rfl)) rfl rfl ?_
          refine WL.val (R_lenS u145 rfl) rfl rfl ?_
          refine WL.val (R_move rfl) rfl rfl ?_
          refine WL.nil ?_
          refine WQ.thenC ?_
          refine WC.block ?_
          have hS := hS.nilRow RTree 52
          have hS := hS.pick [1, 2, 3, 4, 5, 0] [3, 0, 1, 2] rfl
          refine WC.loopJ (fun m env w => ∃ (y103659 : List Tree), ∃ (y103660 : Int), ∃ (A103656 : Option Addr), ∃ (n103657 : Nat), ∃ (c103658 : Nat), env = [(1, .pointer (some ⟨b85220, 0, none⟩)), (2, .pointer (some ⟨b85221, 0, none⟩)), (4, .pointer (some ⟨b85229, 0, none⟩)), (42, .slice A58205 p58195.trees.length c58206), (43, .int .i64 (p58195.trees.length : Int)), (44, .int .i64 y103660)] ∧ Sta w0 M [Blk b85220 [.slice A58196 p58195.bins.cuts.length c58197, .slice A58199 p58195.bins.cats.length c58200, .int .i64 p58195.outputs, .slice A58202 p58195.base.length c58203, .slice A58205 p58195.trees.length c58206] 147, Blk b85221 [.string (⟨#[]⟩ : ByteArray), .slice none 0 0, .int .i64 (0 : Int), .slice none 0 0, .slice none 0 0] 26, Blk b85229 [.string (⟨#[98, 105, 110, 110, 101, 100]⟩ : ByteArray), .slice A85290 y85293.length c85292, .int .i64 p58195.outputs, .slice A85230 y85233.length c85232, .slice A103656 n103657 c103658] 26, Row RStr 9 (.slice A85290 y85293.length c85292) y85293, Row (RI .i64) 2 (.slice A85230 y85233.length c85232) y85233, Row RTree 52 (.slice A103656 n103657 c103658) y103659] [FSl RBinTree A58205 c58206 p58195.trees, FSl (RSl RF) A58196 c58197 p58195.bins.cuts, FSl (RSl (RI .i64)) A58199 c58200 p58195.bins.cats, FSl (RI .i64) A58202 c58203 p58195.base] w ∧ bins_Back_l1 k p58195 m y103659 y103660 = some o97561) k ⟨([] : List Tree), (0 : Int), none, 0, 0, rfl, hS, h⟩ ⟨rfl, rfl, rfl, rfl, rfl, rfl, trivial⟩ (fun env w hI => ?_) (fun m env w hI => ?_)
          · obtain ⟨y103659, y103660, A103656, n103657, c103658, rfl, hS, h⟩ := hI
            rw [bins_Back_l1] at h
            cases h
          · obtain ⟨y103659, y103660, A103656, n103657, c103658, rfl, hS, h⟩ := hI
            rw [bins_Back_l1] at h
            obtain rfl := Row.len (hS.res 5 rfl)
            refine WC.seq ?_
            refine WC.reg ?_
            refine WL.val (R_cmp rfl rfl rfl) rfl rfl ?_
            refine WL.nil ?_
            refine WQ.thenC ?_
            refine WC.seq ?_
            refine WC.cond rfl (fun hb109753 => ?_) (fun hb109753 => ?_)
            · have h := ifT hb109753 h
              refine WC.skip ?_
              refine WQ.thenC ?_
              obtain ⟨o112800, h112801, h112802⟩ := bindS h
              refine WC.seqM (fun env w => ∃ (y112799 : List Tree), ∃ (A112796 : Option Addr), ∃ (n112797 : Nat), ∃ (c112798 : Nat), Fl.go y112799 = o112800 ∧ env = [(1, .pointer (some ⟨b85220, 0, none⟩)), (2, .pointer (some ⟨b85221, 0, none⟩)), (4, .pointer (some ⟨b85229, 0, none⟩)), (42, .slice A58205 p58195.trees.length c58206), (43, .int .i64 (p58195.trees.length : Int)), (44, .int .i64 y103660)] ∧ Sta w0 M [Blk b85220 [.slice A58196 p58195.bins.cuts.length c58197, .slice A58199 p58195.bins.cats.length c58200, .int .i64 p58195.outputs, .slice A58202 p58195.base.length c58203, .slice A58205 p58195.trees.length c58206] 147, Blk b85221 [.string (⟨#[]⟩ : ByteArray), .slice none 0 0, .int .i64 (0 : Int), .slice none 0 0, .slice none 0 0] 26, Blk b85229 [.string (⟨#[98, 105, 110, 110, 101, 100]⟩ : ByteArray), .slice A85290 y85293.length c85292, .int .i64 p58195.outputs, .slice A85230 y85233.length c85232, .slice A112796 n112797 c112798] 26, Row RStr 9 (.slice A85290 y85293.length c85292) y85293, Row (RI .i64) 2 (.slice A85230 y85233.length c85232) y85233, Row RTree 52 (.slice A112796 n112797 c112798) y112799] [FSl RBinTree A58205 c58206 p58195.trees, FSl (RSl RF) A58196 c58197 p58195.bins.cuts, FSl (RSl (RI .i64)) A58199 c58200 p58195.bins.cats, FSl (RI .i64) A58202 c58203 p58195.base] w) ?_ ?_
              · have h := h112801
                refine WC.block ?_
                refine WC.seq ?_
                refine WC.reg ?_
                obtain ⟨x112803, hx112804, h⟩ := bindS h
                obtain ⟨ad112805, cs112806, hA112807, hq112808, hK112809, hc112810⟩ := hS.sget 0 rfl (rdS hx112804).2.2
                obtain ⟨A112811, c112812, rfl, hs112813⟩ := hK112809
                have hS := hS.addF (FSl RBinNode A112811 c112812 x112803.nodes) hs112813
                refine WL.val (R_indexAddr u145 z212 rfl rfl hA112807 (rdS hx112804).1 hq112808) rfl rfl ?_
                refine WL.val (R_loadA g212 rfl rfl hc112810) rfl rfl ?_
                refine WL.alloc _ z212 rfl hS rfl ?_
                intro b112814 w hS
                refine WL.storeB 0 [.int .i64 x112803.output, .slice A112811 x112803.nodes.length c112812] g212 hS rfl rfl rfl rfl rfl rfl rfl [.int .i64 x112803.output, .slice A112811 x112803.nodes.length c112812] rfl ?_
                intro w hS
                refine WL.nil ?_
                refine WQ.thenC ?_
                refine WC.seq ?_
                refine WC.reg ?_
                refine WL.val (R_fieldB o212_0 rfl) rfl rfl ?_
                refine WL.val (R_load1 g3 rfl (hS.cell 0 rfl rfl)) rfl rfl ?_
                refine WL.val (R_build (cells := #[.int .i64 x112803.output, .slice none 0 0]) rfl (by kernel_rfl)) rfl rfl ?_
                refine WL.alloc _ z52 rfl hS rfl ?_
                intro b112815 w hS
                refine WL.storeB 0 [.int .i64 x112803.output, .slice none 0 0] g52 hS rfl rfl rfl rfl rfl rfl rfl [.int .i64 x112803.output, .slice none 0 0] rfl ?_
                intro w hS
                refine WL.nil ?_
                refine WQ.thenC ?_
                obtain ⟨o114329, h114330, h114331⟩ := bindS h
                refine WC.seqM (fun env w => ∃ (y114328 : List Node), ∃ (A114325 : Option Addr), ∃ (n114326 : Nat), ∃ (c114327 : Nat), Fl.go y114328 = o114329 ∧ env = [(1, .pointer (some ⟨b85220, 0, none⟩)), (2, .pointer (some ⟨b85221, 0, none⟩)), (4, .pointer (some ⟨b85229, 0, none⟩)), (8, .pointer (some ⟨b112815, 0, none⟩)), (42, .slice A58205 p58195.trees.length c58206), (43, .int .i64 (p58195.trees.length : Int)), (44, .int .i64 y103660)] ∧ Sta w0 M [Blk b85220 [.slice A58196 p58195.bins.cuts.length c58197, .slice A58199 p58195.bins.cats.length c58200, .int .i64 p58195.outputs, .slice A58202 p58195.base.length c58203, .slice A58205 p58195.trees.length c58206] 147, Blk b85221 [.string (⟨#[]⟩ : ByteArray), .slice none 0 0, .int .i64 (0 : Int), .slice none 0 0, .slice none 0 0] 26, Blk b85229 [.string (⟨#[98, 105, 110, 110, 101, 100]⟩ : ByteArray), .slice A85290 y85293.length c85292, .int .i64 p58195.outputs, .slice A85230 y85233.length c85232, .slice A103656 y103659.length c103658] 26, Row RStr 9 (.slice A85290 y85293.length c85292) y85293, Row (RI .i64) 2 (.slice A85230 y85233.length c85232) y85233, Row RTree 52 (.slice A103656 y103659.length c103658) y103659, Blk b112815 [.int .i64 x112803.output, .slice A114325 n114326 c114327] 52, Row RNode 58 (.slice A114325 n114326 c114327) y114328] [FSl RBinTree A58205 c58206 p58195.trees, FSl (RSl RF) A58196 c58197 p58195.bins.cuts, FSl (RSl (RI .i64)) A58199 c58200 p58195.bins.cats, FSl (RI .i64) A58202 c58203 p58195.base] w) ?_ ?_
                · have h := h114330
                  refine WC.seq ?_
                  refine WC.reg ?_
                  refine WL.val (R_fieldB o212_1 rfl) rfl rfl ?_
                  refine WL.val (R_load1 g210 rfl (hS.cell 1 rfl rfl)) rfl rfl ?_
                  refine WL.val (R_lenS u210 rfl) rfl rfl ?_
                  refine WL.val (R_move rfl) rfl rfl ?_
                  refine WL.nil ?_
                  refine WQ.thenC ?_
                  refine WC.block ?_
                  have hS := hS.nilRow RNode 58
                  have hS := hS.pick [3, 4, 5, 6, 7, 8, 1, 0] [1, 0, 2, 3, 4] rfl
                  refine WC.loopJ (fun m env w => ∃ (y115087 : List Node), ∃ (y115088 : Int), ∃ (A115084 : Option Addr), ∃ (n115085 : Nat), ∃ (c115086 : Nat), env = [(1, .pointer (some ⟨b85220, 0, none⟩)), (2, .pointer (some ⟨b85221, 0, none⟩)), (4, .pointer (some ⟨b85229, 0, none⟩)), (8, .pointer (some ⟨b112815, 0, none⟩)), (42, .slice A58205 p58195.trees.length c58206), (43, .int .i64 (p58195.trees.length : Int)), (44, .int .i64 y103660), (52, .slice A112811 x112803.nodes.length c112812), (53, .int .i64 (x112803.nodes.length : Int)), (54, .int .i64 y115088)] ∧ Sta w0 M [Blk b85220 [.slice A58196 p58195.bins.cuts.length c58197, .slice A58199 p58195.bins.cats.length c58200, .int .i64 p58195.outputs, .slice A58202 p58195.base.length c58203, .slice A58205 p58195.trees.length c58206] 147, Blk b85221 [.string (⟨#[]⟩ : ByteArray), .slice none 0 0, .int .i64 (0 : Int), .slice none 0 0, .slice none 0 0] 26, Blk b85229 [.string (⟨#[98, 105, 110, 110, 101, 100]⟩ : ByteArray), .slice A85290 y85293.length c85292, .int .i64 p58195.outputs, .slice A85230 y85233.length c85232, .slice A103656 y103659.length c103658] 26, Row RStr 9 (.slice A85290 y85293.length c85292) y85293, Row (RI .i64) 2 (.slice A85230 y85233.length c85232) y85233, Row RTree 52 (.slice A103656 y103659.length c103658) y103659, Blk b112815 [.int .i64 x112803.output, .slice A115084 n115085 c115086] 52, Row RNode 58 (.slice A115084 n115085 c115086) y115087] [FSl RBinTree A58205 c58206 p58195.trees, FSl RBinNode A112811 c112812 x112803.nodes, FSl (RSl RF) A58196 c58197 p58195.bins.cuts, FSl (RSl (RI .i64)) A58199 c58200 p58195.bins.cats, FSl (RI .i64) A58202 c58203 p58195.base] w ∧ bins_Back_l2 k x112803 p58195 m y115087 y115088 = some o114329) k ⟨([] : List Node), (0 : Int), none, 0, 0, rfl, hS, h⟩ ⟨rfl, rfl, rfl, rfl, rfl, rfl, rfl, rfl, rfl, rfl, trivial⟩ (fun env w hI => ?_) (fun m env w hI => ?_)
                  · obtain ⟨y115087, y115088, A115084, n115085, c115086, rfl, hS, h⟩ := hI
                    rw [bins_Back_l2] at h
                    cases h
                  · obtain ⟨y115087, y115088, A115084, n115085, c115086, rfl, hS, h⟩ := hI
                    rw [bins_Back_l2] at h
                    obtain rfl := Row.len (hS.res 7 rfl)
                    refine WC.seq ?_
                    refine WC.reg ?_
                    refine WL.val (R_cmp rfl rfl rfl) rfl rfl ?_
                    refine WL.nil ?_
                    refine WQ.thenC ?_
                    refine WC.seq ?_
                    refine WC.cond rfl (fun hb115841 => ?_) (fun hb115841 => ?_)
                    · have h := ifT hb115841 h
                      refine WC.skip ?_
                      refine WQ.thenC ?_
                      obtain ⟨o116218, h116219, h116220⟩ := bindS h
                      refine WC.seqM (fun env w => ∃ (y116217 : List Node), ∃ (A116214 : Option Addr), ∃ (n116215 : Nat), ∃ (c116216 : Nat), Fl.go y116217 = o116218 ∧ env = [(1, .pointer (some ⟨b85220, 0, none⟩)), (2, .pointer (some ⟨b85221, 0, none⟩)), (4, .pointer (some ⟨b85229, 0, none⟩)), (8, .pointer (some ⟨b112815, 0, none⟩)), (42, .slice A58205 p58195.trees.length c58206), (43, .int .i64 (p58195.trees.length : Int)), (44, .int .i64 y103660), (52, .slice A112811 x112803.nodes.length c112812), (53, .int .i64 (x112803.nodes.length : Int)), (54, .int .i64 y115088)] ∧ Sta w0 M [Blk b85220 [.slice A58196 p58195.bins.cuts.length c58197, .slice A58199 p58195.bins.cats.length c58200, .int .i64 p58195.outputs, .slice A58202 p58195.base.length c58203, .slice A58205 p58195.trees.length c58206] 147, Blk b85221 [.string (⟨#[]⟩ : ByteArray), .slice none 0 0, .int .i64 (0 : Int), .slice none 0 0, .slice none 0 0] 26, Blk b85229 [.string (⟨#[98, 105, 110, 110, 101, 100]⟩ : ByteArray), .slice A85290 y85293.length c85292, .int .i64 p58195.outputs, .slice A85230 y85233.length c85232, .slice A103656 y103659.length c103658] 26, Row RStr 9 (.slice A85290 y85293.length c85292) y85293, Row (RI .i64) 2 (.slice A85230 y85233.length c85232) y85233, Row RTree 52 (.slice A103656 y103659.length c103658) y103659, Blk b112815 [.int .i64 x112803.output, .slice A116214 n116215 c116216] 52, Row RNode 58 (.slice A116214 n116215 c116216) y116217] [FSl RBinTree A58205 c58206 p58195.trees, FSl RBinNode A112811 c112812 x112803.nodes, FSl (RSl RF) A58196 c58197 p58195.bins.cuts, FSl (RSl (RI .i64)) A58199 c58200 p58195.bins.cats, FSl (RI .i64) A58202 c58203 p58195.base] w) ?_ ?_
                      · have h := h116219
                        refine WC.block ?_
                        refine WC.seq ?_
                        refine WC.reg ?_
                        obtain ⟨x116221, hx116222, h⟩ := bindS h
                        obtain ⟨ad116223, cs116224, hA116225, hq116226, hK116227, hc116228⟩ := hS.sget 1 rfl (rdS hx116222).2.2
                        obtain ⟨A116229, c116230, rfl, hs116231⟩ := hK116227
                        have hS := hS.addF (FSl (RI .i64) A116229 c116230 x116221.cats) hs116231
                        refine WL.val (R_indexAddr u210 z214 rfl rfl hA116225 (rdS hx116222).1 hq116226) rfl rfl ?_
                        refine WL.val (R_loadA g214 rfl rfl hc116228) rfl rfl ?_
                        refine WL.alloc _ z214 rfl hS rfl ?_
                        intro b116232 w hS
                        refine WL.storeB 0 [.int .u8 x116221.kind, .int .i64 x116221.value, .int .i64 x116221.feature, .int .i64 x116221.rank, .slice A116229 x116221.cats.length c116230, .int .u8 x116221.missing, .int .i64 x116221.left, .int .i64 x116221.right] g214 hS rfl rfl rfl rfl rfl rfl rfl [.int .u8 x116221.kind, .int .i64 x116221.value, .int .i64 x116221.feature, .int .i64 x116221.rank, .slice A116229 x116221.cats.length c116230, .int .u8 x116221.missing, .int .i64 x116221.left, .int .i64 x116221.right] rfl ?_
                        intro w hS
                        refine WL.nil ?_
                        refine WQ.thenC ?_
                        refine WC.seq ?_
                        refine WC.seq ?_
                        refine WC.reg ?_
                        refine WL.val (R_fieldB o147_0 rfl) rfl rfl ?_
                        refine WL.val (R_loadA g70 rfl rfl (hS.cells 1 (o := 0) (m := 2) rfl rfl)) rfl rfl ?_
                        refine WL.val (R_loadA g214 rfl rfl (hS.cells 0 (o := 0) (m := 8) rfl rfl)) rfl rfl ?_
                        obtain ⟨r116233, hr116234, h⟩ := bindS h
                        refine WL.call e186 rfl rfl hS (bins_placed_ok (hS).mx_lt k p58195.bins x116221 (hS.sl 3 rfl) (hS.sl 4 rfl) (hS.sl 0 rfl) _ hr116234) rfl ?_
                        intro v w hB hS hP
                        obtain ⟨rfl⟩ := hP
                        refine WL.val (R_not rfl) rfl rfl ?_
                        refine WL.nil ?_
                        refine WQ.thenC ?_
                        refine WC.cond rfl (fun hb116235 => ?_) (fun hb116235 => ?_)
                        · have h := ifT hb116235 h
                          refine WC.seq ?_
                          refine WC.reg ?_
                          refine WL.val (R_build (cells := #[.string (⟨#[]⟩ : ByteArray), .slice none 0 0, .int .i64 (0 : Int), .slice none 0 0, .slice none 0 0]) rfl (by kernel_rfl)) rfl rfl ?_
                          refine WL.storeB 2 [.string (⟨#[]⟩ : ByteArray), .slice none 0 0, .int .i64 (0 : Int), .slice none 0 0, .slice none 0 0] g26 hS rfl rfl rfl rfl rfl rfl rfl [.string (⟨#[]⟩ : ByteArray), .slice none 0 0, .int .i64 (0 : Int), .slice none 0 0, .slice none 0 0] rfl ?_
                          intro w hS
                          refine WL.val (R_assign rfl) rfl rfl ?_
                          refine WL.nil ?_
                          refine WQ.thenC ?_
                          refine WC.ret ?_
                          refine WQ.thenR ?_
                          refine WQ.blockR ?_
                          refine WQ.thenR ?_
                          obtain ⟨_, hr, rfl⟩ := mapS h
                          have h := hr.trans h116220
                          refine WQ.thenR ?_
                          refine WQ.blockR ?_
                          refine WQ.thenR ?_
                          obtain ⟨_, hr, rfl⟩ := mapS h
                          have h := hr.trans h114331
                          refine WQ.blockR ?_
                          refine WQ.thenR ?_
                          obtain ⟨_, hr, rfl⟩ := mapS h
                          have h := hr.trans h112802
                          refine WQ.thenR ?_
                          refine WQ.blockR ?_
                          refine WQ.thenR ?_
                          obtain ⟨_, hr, rfl⟩ := mapS h
                          have h := hr.trans h97563
                          have hS0 := hS
                          have h := Option.some.inj h
                          obtain ⟨rfl, rfl⟩ := Prod.mk.inj h
                          exact ret_2 rfl (resV_B 2 hS0 rfl rfl g26 rfl) rfl ⟨_, rfl, hS.bel, ⟨none, 0, none, 0, none, 0, rfl, slnil, slnil, slnil⟩⟩
                        · have h := ifF hb116235 h
                          refine WC.skip ?_
                          refine WQ.thenC ?_
                          refine WC.seq ?_
                          refine WC.reg ?_
                          refine WL.val (R_fieldB o214_0 rfl) rfl rfl ?_
                          refine WL.val (R_load1 g53 rfl (hS.cell 0 rfl rfl)) rfl rfl ?_
                          refine WL.val (R_fieldB o214_1 rfl) rfl rfl ?_
                          refine WL.val (R_load1 g2 rfl (hS.cell 0 rfl rfl)) rfl rfl ?_
                          refine WL.val (R_fieldB o214_2 rfl) rfl rfl ?_
                          refine WL.val (R_load1 g3 rfl (hS.cell 0 rfl rfl)) rfl rfl ?_
                          refine WL.val (R_fieldB o214_5 rfl) rfl rfl ?_
                          refine WL.val (R_load1 g56 rfl (hS.cell 0 rfl rfl)) rfl rfl ?_
                          refine WL.val (R_fieldB o214_6 rfl) rfl rfl ?_
                          refine WL.val (R_load1 g3 rfl (hS.cell 0 rfl rfl)) rfl rfl ?_
                          refine WL.val (R_fieldB o214_7 rfl) rfl rfl ?_
                          refine WL.val (R_load1 g3 rfl (hS.cell 0 rfl rfl)) rfl rfl ?_
                          refine WL.val (R_build (cells := #[.int .u8 x116221.kind, .int .i64 x116221.value, .int .i64 x116221.feature, .float .f64 (0 : Nat), .slice none 0 0, .int .u8 x116221.missing, .int .i64 x116221.left, .int .i64 x116221.right]) rfl (by kernel_rfl)) rfl rfl ?_
                          refine WL.alloc _ z58 rfl hS rfl ?_
                          intro b116236 w hS
                          refine WL.storeB 0 [.int .u8 x116221.kind, .int .i64 x116221.value, .int .i64 x116221.feature, .float .f64 (0 : Nat), .slice none 0 0, .int .u8 x116221.missing, .int .i64 x116221.left, .int .i64 x116221.right] g58 hS rfl rfl rfl rfl rfl rfl rfl [.int .u8 x116221.kind, .int .i64 x116221.value, .int .i64 x116221.feature, .float .f64 (0 : Nat), .slice none 0 0, .int .u8 x116221.missing, .int .i64 x116221.left, .int .i64 x116221.right] rfl ?_
                          intro w hS
                          refine WL.nil ?_
                          refine WQ.thenC ?_
                          obtain ⟨o116414, h116415, h116416⟩ := bindS h
                          refine WC.seqM (fun env w => ∃ (y116409 : Nat), ∃ (y116413 : List Int), ∃ (A116410 : Option Addr), ∃ (n116411 : Nat), ∃ (c116412 : Nat), (y116409, y116413) = o116414 ∧ env = [(1, .pointer (some ⟨b85220, 0, none⟩)), (2, .pointer (some ⟨b85221, 0, none⟩)), (4, .pointer (some ⟨b85229, 0, none⟩)), (8, .pointer (some ⟨b112815, 0, none⟩)), (11, .pointer (some ⟨b116236, 0, none⟩)), (42, .slice A58205 p58195.trees.length c58206), (43, .int .i64 (p58195.trees.length : Int)), (44, .int .i64 y103660), (52, .slice A112811 x112803.nodes.length c112812), (53, .int .i64 (x112803.nodes.length : Int)), (54, .int .i64 y115088)] ∧ Sta w0 M [Blk b85220 [.slice A58196 p58195.bins.cuts.length c58197, .slice A58199 p58195.bins.cats.length c58200, .int .i64 p58195.outputs, .slice A58202 p58195.base.length c58203, .slice A58205 p58195.trees.length c58206] 147, Blk b85221 [.string (⟨#[]⟩ : ByteArray), .slice none 0 0, .int .i64 (0 : Int), .slice none 0 0, .slice none 0 0] 26, Blk b85229 [.string (⟨#[98, 105, 110, 110, 101, 100]⟩ : ByteArray), .slice A85290 y85293.length c85292, .int .i64 p58195.outputs, .slice A85230 y85233.length c85232, .slice A103656 y103659.length c103658] 26, Row RStr 9 (.slice A85290 y85293.length c85292) y85293, Row (RI .i64) 2 (.slice A85230 y85233.length c85232) y85233, Row RTree 52 (.slice A103656 y103659.length c103658) y103659, Blk b112815 [.int .i64 x112803.output, .slice A115084 y115087.length c115086] 52, Row RNode 58 (.slice A115084 y115087.length c115086) y115087, Blk b116236 [.int .u8 x116221.kind, .int .i64 x116221.value, .int .i64 x116221.feature, .float .f64 y116409, .slice A116410 n116411 c116412, .int .u8 x116221.missing, .int .i64 x116221.left, .int .i64 x116221.right] 58, Row (RI .i64) 3 (.slice A116410 n116411 c116412) y116413] [FSl RBinTree A58205 c58206 p58195.trees, FSl RBinNode A112811 c112812 x112803.nodes, FSl (RSl RF) A58196 c58197 p58195.bins.cuts, FSl (RSl (RI .i64)) A58199 c58200 p58195.bins.cats, FSl (RI .i64) A58202 c58203 p58195.base] w) ?_ ?_
                          · have h := h116415
                            refine WC.seq ?_
                            refine WC.reg ?_
                            refine WL.val (R_fieldB o214_0 rfl) rfl rfl ?_
                            refine WL.val (R_load1 g53 rfl (hS.cell 1 rfl rfl)) rfl rfl ?_
                            refine WL.nil ?_
                            refine WQ.thenC ?_
                            refine WC.block ?_
                            refine WC.seq ?_
                            refine WC.reg ?_
                            refine WL.val (R_cmp rfl rfl rfl) rfl rfl ?_
                            refine WL.val (R_assign rfl) rfl rfl ?_
                            refine WL.nil ?_
                            refine WQ.thenC ?_
                            refine WC.cond rfl (fun hb116417 => ?_) (fun hb116417 => ?_)
                            · have h := ifT hb116417 h
                              refine WC.seq ?_
                              obtain ⟨x116418, hx116419, h⟩ := bindS h
                              obtain ⟨x116429, hx116430, h⟩ := bindS h
                              obtain ⟨ad116420, cs116421, hA116422, hq116423, hK116424, hS⟩ := hS.hoist 3 rfl (rdS hx116419).2.2
                              obtain ⟨A116426, c116427, rfl, hs116428⟩ := hK116424
                              have hS := hS.addF (FSl RF A116426 c116427 x116418) hs116428
                              obtain ⟨ad116431, cs116432, hA116433, hq116434, hK116435, hS⟩ := hS.hoist 0 rfl (rdS hx116430).2.2
                              obtain rfl := hK116435
                              refine WC.held (Sta w0 M [Blk b116232 [.int .u8 x116221.kind, .int .i64 x116221.value, .int .i64 x116221.feature, .int .i64 x116221.rank, .slice A116229 x116221.cats.length c116230, .int .u8 x116221.missing, .int .i64 x116221.left, .int .i64 x116221.right] 214, Blk b85220 [.slice A58196 p58195.bins.cuts.length c58197, .slice A58199 p58195.bins.cats.length c58200, .int .i64 p58195.outputs, .slice A58202 p58195.base.length c58203, .slice A58205 p58195.trees.length c58206] 147, Blk b85221 [.string (⟨#[]⟩ : ByteArray), .slice none 0 0, .int .i64 (0 : Int), .slice none 0 0, .slice none 0 0] 26, Blk b85229 [.string (⟨#[98, 105, 110, 110, 101, 100]⟩ : ByteArray), .slice A85290 y85293.length c85292, .int .i64 p58195.outputs, .slice A85230 y85233.length c85232, .slice A103656 y103659.length c103658] 26, Row RStr 9 (.slice A85290 y85293.length c85292) y85293, Row (RI .i64) 2 (.slice A85230 y85233.length c85232) y85233, Row RTree 52 (.slice A103656 y103659.length c103658) y103659, Blk b112815 [.int .i64 x112803.output, .slice A115084 y115087.length c115086] 52, Row RNode 58 (.slice A115084 y115087.length c115086) y115087] [FCs (ad116431.add (x116221.rank.toNat * 1)) [.float .f64 x116429], FSl RF A116426 c116427 x116418, FCs (ad116420.add (x116221.feature.toNat * 1)) [.slice A116426 x116418.length c116427], FSl (RI .i64) A116229 c116230 x116221.cats, FSl RBinTree A58205 c58206 p58195.trees, FSl RBinNode A112811 c112812 x112803.nodes, FSl (RSl RF) A58196 c58197 p58195.bins.cuts, FSl (RSl (RI .i64)) A58199 c58200 p58195.bins.cats, FSl (RI .i64) A58202 c58203 p58195.base]) fol hS rfl ?_
                              intro w hS
                              refine HL.val 0 #[true, false, false, false, false, false, false, false, false, false, false, false, false] rfl (by kernel_rfl) (by kernel_rfl) (by kernel_rfl) rfl rfl (hS.pick [1, 2, 3, 4, 5, 6, 7, 8, 9] [0, 1, 2, 3, 4, 5, 6, 7, 8] rfl) (fun w hS => R_fieldB o147_0 rfl) ?_
                              refine HL.val 1 #[true, true, false, false, false, false, false, false, false, false, false, false, false] rfl (by kernel_rfl) (by kernel_rfl) (by kernel_rfl) rfl rfl (hS.pick [1, 2, 3, 4, 5, 6, 7, 8, 9] [0, 1, 2, 3, 4, 5, 6, 7, 8] rfl) (fun w hS => R_fieldB o70_0 rfl) ?_
                              refine HL.val 2 #[true, true, true, false, false, false, false, false, false, false, false, false, false] rfl (by kernel_rfl) (by kernel_rfl) (by kernel_rfl) rfl rfl (hS.pick [1, 2, 3, 4, 5, 6, 7, 8, 9] [0, 1, 2, 3, 4, 5, 6, 7, 8] rfl) (fun w hS => R_load1 g62 rfl (hS.cell 1 rfl rfl)) ?_
                              refine HL.val 3 #[true, true, true, true, false, false, false, false, false, false, false, false, false] rfl (by kernel_rfl) (by kernel_rfl) (by kernel_rfl) rfl rfl (hS.pick [1, 2, 3, 4, 5, 6, 7, 8, 9] [0, 1, 2, 3, 4, 5, 6, 7, 8] rfl) (fun w hS => R_fieldB o214_2 rfl) ?_
                              refine HL.val 4 #[true, true, true, true, true, false, false, false, false, false, false, false, false] rfl (by kernel_rfl) (by kernel_rfl) (by kernel_rfl) rfl rfl (hS.pick [1, 2, 3, 4, 5, 6, 7, 8, 9] [0, 1, 2, 3, 4, 5, 6, 7, 8] rfl) (fun w hS => R_load1 g3 rfl (hS.cell 0 rfl rfl)) ?_
                              refine HL.val 5 #[true, true, true, true, true, true, false, false, false, false, false, false, false] rfl (by kernel_rfl) (by kernel_rfl) (by kernel_rfl) rfl rfl (hS.pick [1, 2, 3, 4, 5, 6, 7, 8, 9] [0, 1, 2, 3, 4, 5, 6, 7, 8] rfl) (fun w hS => R_indexAddr u62 z65 rfl rfl hA116422 (rdS hx116419).1 hq116423) ?_
                              refine HL.val 6 #[true, true, true, true, true, true, true, false, false, false, false, false, false] rfl (by kernel_rfl) (by kernel_rfl) (by kernel_rfl) rfl rfl (hS.pick [1, 2, 3, 4, 5, 6, 7, 8, 9] [0, 1, 2, 3, 4, 5, 6, 7, 8] rfl) (fun w hS => R_load1 g65 rfl (hS.fc 2 rfl 0 rfl)) ?_
                              refine HL.val 7 #[true, true, true, true, true, true, true, true, false, false, false, false, false] rfl (by kernel_rfl) (by kernel_rfl) (by kernel_rfl) rfl rfl (hS.pick [1, 2, 3, 4, 5, 6, 7, 8, 9] [0, 1, 2, 3, 4, 5, 6, 7, 8] rfl) (fun w hS => R_fieldB o214_3 rfl) ?_
                              refine HL.val 8 #[true, true, true, true, true, true, true, true, true, false, false, false, false] rfl (by kernel_rfl) (by kernel_rfl) (by kernel_rfl) rfl rfl (hS.pick [1, 2, 3, 4, 5, 6, 7, 8, 9] [0, 1, 2, 3, 4, 5, 6, 7, 8] rfl) (fun w hS => R_load1 g3 rfl (hS.cell 0 rfl rfl)) ?_
                              refine HL.val 9 #[true, true, true, true, true, true, true, true, true, true, false, false, false] rfl (by kernel_rfl) (by kernel_rfl) (by kernel_rfl) rfl rfl (hS.pick [1, 2, 3, 4, 5, 6, 7, 8, 9] [0, 1, 2, 3, 4, 5, 6, 7, 8] rfl) (fun w hS => R_indexAddr u65 z54 rfl rfl hA116433 (rdS hx116430).1 hq116434) ?_
                              refine HL.val 10 #[true, true, true, true, true, true, true, true, true, true, true, false, false] rfl (by kernel_rfl) (by kernel_rfl) (by kernel_rfl) rfl rfl (hS.pick [1, 2, 3, 4, 5, 6, 7, 8, 9] [0, 1, 2, 3, 4, 5, 6, 7, 8] rfl) (fun w hS => R_load1 g54 rfl (hS.fc 0 rfl 0 rfl)) ?_
                              refine HL.val 11 #[true, true, true, true, true, true, true, true, true, true, true, true, false] rfl (by kernel_rfl) (by kernel_rfl) (by kernel_rfl) rfl rfl (hS.pick [1, 2, 3, 4, 5, 6, 7, 8, 9] [0, 1, 2, 3, 4, 5, 6, 7, 8] rfl) (fun w hS => R_fieldB o58_3 rfl) ?_
                              refine HL.all [12] (by kernel_rfl) rfl ⟨?_, trivial⟩
                              refine HO.of #[true, true, true, true, true, true, true, true, true, true, true, true, true] rfl rfl ?_
                              refine WL.storeB 0 [.float .f64 x116429] g54 hS rfl rfl rfl rfl rfl rfl rfl [.int .u8 x116221.kind, .int .i64 x116221.value, .int .i64 x116221.feature, .float .f64 x116429, .slice none 0 0, .int .u8 x116221.missing, .int .i64 x116221.left, .int .i64 x116221.right] rfl ?_
                              intro w hS
                              refine WL.nil ?_
                              refine HL.next (hS.pick [1, 2, 3, 4, 5, 6, 7, 8, 9] [0, 1, 2, 3, 4, 5, 6, 7, 8] rfl) ?_
                              refine HL.done (by kernel_rfl) (HL.keepQ ?_)
                              refine WQ.thenC ?_
                              refine WC.reg ?_
                              refine WL.val (R_fieldB o58_4 rfl) rfl rfl ?_
                              refine WL.val (R_load1 g55 rfl (hS.cell 0 rfl rfl)) rfl rfl ?_
                              refine WL.val (R_fieldB o214_4 rfl) rfl rfl ?_
                              refine WL.val (R_load1 g55 rfl (hS.cell 1 rfl rfl)) rfl rfl ?_
                              have hS := hS.nilRow (RI .i64) 3
                              obtain ⟨hg116437, h⟩ := grdS h
                              refine WL.append (R := (RI .i64)) (zs := x116221.cats) 0 u55 z3 rfl rfl rfl hS rfl rfl rfl rfl (Sl.src (hS.sl 3 rfl).2) hg116437 rfl rfl ?_
                              intro A116438 c116439 w hS
                              refine WL.val (R_fieldB o58_4 rfl) rfl rfl ?_
                              refine WL.storeB 1 [.slice A116438 ((([] : List Int) ++ x116221.cats).length) c116439] g55 hS rfl rfl rfl rfl rfl rfl rfl [.int .u8 x116221.kind, .int .i64 x116221.value, .int .i64 x116221.feature, .float .f64 x116429, .slice A116438 ((([] : List Int) ++ x116221.cats).length) c116439, .int .u8 x116221.missing, .int .i64 x116221.left, .int .i64 x116221.right] rfl ?_
                              intro w hS
                              refine WL.nil ?_
                              refine WQ.blockN ?_
                              have hS := hS.pick [3, 4, 5, 6, 7, 8, 9, 10, 1, 0] [4, 5, 6, 7, 8] rfl
                              exact WQ.toJ ⟨x116429, (([] : List Int) ++ x116221.cats), A116438, (([] : List Int) ++ x116221.cats).length, c116439, Option.some.inj h, rfl, hS⟩ ⟨rfl, rfl, rfl, rfl, rfl, rfl, rfl, rfl, rfl, rfl, rfl, trivial⟩
                            · have h := ifF hb116417 h
                              refine WC.seq ?_
                              refine WC.reg ?_
                              refine WL.val (R_cmp rfl rfl rfl) rfl rfl ?_
                              refine WL.val (R_assign rfl) rfl rfl ?_
                              refine WL.nil ?_
                              refine WQ.thenC ?_
                              refine WC.cond rfl (fun hb116440 => ?_) (fun hb116440 => ?_)
                              · have h := ifT hb116440 h
                                refine WC.seq ?_
                                refine WC.reg ?_
                                refine WL.val (R_fieldB o214_4 rfl) rfl rfl ?_
                                refine WL.val (R_load1 g55 rfl (hS.cell 1 rfl rfl)) rfl rfl ?_
                                refine WL.val (R_lenS u55 rfl) rfl rfl ?_
                                refine WL.val (R_move rfl) rfl rfl ?_
                                refine WL.nil ?_
                                refine WQ.thenC ?_
                                refine WC.block ?_
                                have hS := hS.nilRow (RI .i64) 3
                                have hS := hS.pick [3, 4, 5, 6, 7, 8, 9, 10, 2, 1, 0] [1, 2, 0, 3, 4, 5] rfl
                                refine WC.loopJ (fun m env w => ∃ (y116514 : List Int), ∃ (y116515 : Int), ∃ (A116511 : Option Addr), ∃ (n116512 : Nat), ∃ (c116513 : Nat), env = [(1, .pointer (some ⟨b85220, 0, none⟩)), (2, .pointer (some ⟨b85221, 0, none⟩)), (4, .pointer (some ⟨b85229, 0, none⟩)), (8, .pointer (some ⟨b112815, 0, none⟩)), (10, .pointer (some ⟨b116232, 0, none⟩)), (11, .pointer (some ⟨b116236, 0, none⟩)), (42, .slice A58205 p58195.trees.length c58206), (43, .int .i64 (p58195.trees.length : Int)), (44, .int .i64 y103660), (52, .slice A112811 x112803.nodes.length c112812), (53, .int .i64 (x112803.nodes.length : Int)), (54, .int .i64 y115088), (108, .slice A116229 x116221.cats.length c116230), (109, .int .i64 (x116221.cats.length : Int)), (110, .int .i64 y116515)] ∧ Sta w0 M [Blk b85220 [.slice A58196 p58195.bins.cuts.length c58197, .slice A58199 p58195.bins.cats.length c58200, .int .i64 p58195.outputs, .slice A58202 p58195.base.length c58203, .slice A58205 p58195.trees.length c58206] 147, Blk b85221 [.string (⟨#[]⟩ : ByteArray), .slice none 0 0, .int .i64 (0 : Int), .slice none 0 0, .slice none 0 0] 26, Blk b85229 [.string (⟨#[98, 105, 110, 110, 101, 100]⟩ : ByteArray), .slice A85290 y85293.length c85292, .int .i64 p58195.outputs, .slice A85230 y85233.length c85232, .slice A103656 y103659.length c103658] 26, Row RStr 9 (.slice A85290 y85293.length c85292) y85293, Row (RI .i64) 2 (.slice A85230 y85233.length c85232) y85233, Row RTree 52 (.slice A103656 y103659.length c103658) y103659, Blk b112815 [.int .i64 x112803.output, .slice A115084 y115087.length c115086] 52, Row RNode 58 (.slice A115084 y115087.length c115086) y115087, Blk b116232 [.int .u8 x116221.kind, .int .i64 x116221.value, .int .i64 x116221.feature, .int .i64 x116221.rank, .slice A116229 x116221.cats.length c116230, .int .u8 x116221.missing, .int .i64 x116221.left, .int .i64 x116221.right] 214, Blk b116236 [.int .u8 x116221.kind, .int .i64 x116221.value, .int .i64 x116221.feature, .float .f64 (0 : Nat), .slice A116511 n116512 c116513, .int .u8 x116221.missing, .int .i64 x116221.left, .int .i64 x116221.right] 58, Row (RI .i64) 3 (.slice A116511 n116512 c116513) y116514] [FSl RBinTree A58205 c58206 p58195.trees, FSl RBinNode A112811 c112812 x112803.nodes, FSl (RI .i64) A116229 c116230 x116221.cats, FSl (RSl RF) A58196 c58197 p58195.bins.cuts, FSl (RSl (RI .i64)) A58199 c58200 p58195.bins.cats, FSl (RI .i64) A58202 c58203 p58195.base] w ∧ bins_Back_l3 k x116221 p58195 m y116514 y116515 = some o116414) k ⟨([] : List Int), (0 : Int), none, 0, 0, rfl, hS, h⟩ ⟨rfl, rfl, rfl, rfl, rfl, rfl, rfl, rfl, rfl, rfl, rfl, rfl, rfl, rfl, rfl, trivial⟩ (fun env w hI => ?_) (fun m env w hI => ?_)
                                · obtain ⟨y116514, y116515, A116511, n116512, c116513, rfl, hS, h⟩ := hI
                                  rw [bins_Back_l3] at h
                                  cases h
                                · obtain ⟨y116514, y116515, A116511, n116512, c116513, rfl, hS, h⟩ := hI
                                  rw [bins_Back_l3] at h
                                  obtain rfl := Row.len (hS.res 10 rfl)
                                  refine WC.seq ?_
                                  refine WC.reg ?_
                                  refine WL.val (R_cmp rfl rfl rfl) rfl rfl ?_
                                  refine WL.nil ?_
                                  refine WQ.thenC ?_
                                  refine WC.seq ?_
                                  refine WC.cond rfl (fun hb116586 => ?_) (fun hb116586 => ?_)
                                  · have h := ifT hb116586 h
                                    refine WC.skip ?_
                                    refine WQ.thenC ?_
                                    obtain ⟨o116622, h116623, h116624⟩ := bindS h
                                    refine WC.seqM (fun env w => ∃ (y116621 : List Int), ∃ (A116618 : Option Addr), ∃ (n116619 : Nat), ∃ (c116620 : Nat), y116621 = o116622 ∧ env = [(1, .pointer (some ⟨b85220, 0, none⟩)), (2, .pointer (some ⟨b85221, 0, none⟩)), (4, .pointer (some ⟨b85229, 0, none⟩)), (8, .pointer (some ⟨b112815, 0, none⟩)), (10, .pointer (some ⟨b116232, 0, none⟩)), (11, .pointer (some ⟨b116236, 0, none⟩)), (42, .slice A58205 p58195.trees.length c58206), (43, .int .i64 (p58195.trees.length : Int)), (44, .int .i64 y103660), (52, .slice A112811 x112803.nodes.length c112812), (53, .int .i64 (x112803.nodes.length : Int)), (54, .int .i64 y115088), (108, .slice A116229 x116221.cats.length c116230), (109, .int .i64 (x116221.cats.length : Int)), (110, .int .i64 y116515)] ∧ Sta w0 M [Blk b85220 [.slice A58196 p58195.bins.cuts.length c58197, .slice A58199 p58195.bins.cats.length c58200, .int .i64 p58195.outputs, .slice A58202 p58195.base.length c58203, .slice A58205 p58195.trees.length c58206] 147, Blk b85221 [.string (⟨#[]⟩ : ByteArray), .slice none 0 0, .int .i64 (0 : Int), .slice none 0 0, .slice none 0 0] 26, Blk b85229 [.string (⟨#[98, 105, 110, 110, 101, 100]⟩ : ByteArray), .slice A85290 y85293.length c85292, .int .i64 p58195.outputs, .slice A85230 y85233.length c85232, .slice A103656 y103659.length c103658] 26, Row RStr 9 (.slice A85290 y85293.length c85292) y85293, Row (RI .i64) 2 (.slice A85230 y85233.length c85232) y85233, Row RTree 52 (.slice A103656 y103659.length c103658) y103659, Blk b112815 [.int .i64 x112803.output, .slice A115084 y115087.length c115086] 52, Row RNode 58 (.slice A115084 y115087.length c115086) y115087, Blk b116232 [.int .u8 x116221.kind, .int .i64 x116221.value, .int .i64 x116221.feature, .int .i64 x116221.rank, .slice A116229 x116221.cats.length c116230, .int .u8 x116221.missing, .int .i64 x116221.left, .int .i64 x116221.right] 214, Blk b116236 [.int .u8 x116221.kind, .int .i64 x116221.value, .int .i64 x116221.feature, .float .f64 (0 : Nat), .slice A116618 n116619 c116620, .int .u8 x116221.missing, .int .i64 x116221.left, .int .i64 x116221.right] 58, Row (RI .i64) 3 (.slice A116618 n116619 c116620) y116621] [FSl RBinTree A58205 c58206 p58195.trees, FSl RBinNode A112811 c112812 x112803.nodes, FSl (RI .i64) A116229 c116230 x116221.cats, FSl (RSl RF) A58196 c58197 p58195.bins.cuts, FSl (RSl (RI .i64)) A58199 c58200 p58195.bins.cats, FSl (RI .i64) A58202 c58203 p58195.base] w) ?_ ?_
                                    · have h := h116623
                                      refine WC.block ?_
                                      refine WC.seq ?_
                                      refine WC.reg ?_
                                      obtain ⟨x116625, hx116626, h⟩ := bindS h
                                      obtain ⟨ad116627, cs116628, hA116629, hq116630, hK116631, hc116632⟩ := hS.sget 2 rfl (rdS hx116626).2.2
                                      obtain rfl := hK116631
                                      refine WL.val (R_indexAddr u55 z3 rfl rfl hA116629 (rdS hx116626).1 hq116630) rfl rfl ?_
                                      refine WL.val (R_load1 g3 rfl (hc116632 0 _ rfl)) rfl rfl ?_
                                      refine WL.val (R_assign rfl) rfl rfl ?_
                                      refine WL.nil ?_
                                      refine WQ.thenC ?_
                                      obtain ⟨x116633, hx116634, h⟩ := bindS h
                                      obtain ⟨x116644, hx116645, h⟩ := bindS h
                                      obtain ⟨hg116653, h⟩ := grdS h
                                      obtain ⟨ad116635, cs116636, hA116637, hq116638, hK116639, hS⟩ := hS.hoist 4 rfl (rdS hx116634).2.2
                                      obtain ⟨A116641, c116642, rfl, hs116643⟩ := hK116639
                                      have hS := hS.addF (FSl (RI .i64) A116641 c116642 x116633) hs116643
                                      obtain ⟨ad116646, cs116647, hA116648, hq116649, hK116650, hS⟩ := hS.hoist 0 rfl (rdS hx116645).2.2
                                      obtain rfl := hK116650
                                      refine WC.held (Sta w0 M [Blk b85220 [.slice A58196 p58195.bins.cuts.length c58197, .slice A58199 p58195.bins.cats.length c58200, .int .i64 p58195.outputs, .slice A58202 p58195.base.length c58203, .slice A58205 p58195.trees.length c58206] 147, Blk b85221 [.string (⟨#[]⟩ : ByteArray), .slice none 0 0, .int .i64 (0 : Int), .slice none 0 0, .slice none 0 0] 26, Blk b85229 [.string (⟨#[98, 105, 110, 110, 101, 100]⟩ : ByteArray), .slice A85290 y85293.length c85292, .int .i64 p58195.outputs, .slice A85230 y85233.length c85232, .slice A103656 y103659.length c103658] 26, Row RStr 9 (.slice A85290 y85293.length c85292) y85293, Row (RI .i64) 2 (.slice A85230 y85233.length c85232) y85233, Row RTree 52 (.slice A103656 y103659.length c103658) y103659, Blk b112815 [.int .i64 x112803.output, .slice A115084 y115087.length c115086] 52, Row RNode 58 (.slice A115084 y115087.length c115086) y115087, Blk b116232 [.int .u8 x116221.kind, .int .i64 x116221.value, .int .i64 x116221.feature, .int .i64 x116221.rank, .slice A116229 x116221.cats.length c116230, .int .u8 x116221.missing, .int .i64 x116221.left, .int .i64 x116221.right] 214] [FCs (ad116646.add (x116625.toNat * 1)) [.int .i64 x116644], FSl (RI .i64) A116641 c116642 x116633, FCs (ad116635.add (x116221.feature.toNat * 1)) [.slice A116641 x116633.length c116642], FSl RBinTree A58205 c58206 p58195.trees, FSl RBinNode A112811 c112812 x112803.nodes, FSl (RI .i64) A116229 c116230 x116221.cats, FSl (RSl RF) A58196 c58197 p58195.bins.cuts, FSl (RSl (RI .i64)) A58199 c58200 p58195.bins.cats, FSl (RI .i64) A58202 c58203 p58195.base]) fol hS rfl ?_
                                      intro w hS
                                      refine HL.val 0 #[true, false, false, false, false, false, false, false, false, false, false, false, false, false, false, false] rfl (by kernel_rfl) (by kernel_rfl) (by kernel_rfl) rfl rfl (hS.pick [0, 1, 2, 3, 4, 5, 6, 7, 8] [0, 1, 2, 3, 4, 5, 6, 7, 8] rfl) (fun w hS => R_fieldB o58_4 rfl) ?_
                                      refine HL.val 2 #[true, false, true, false, false, false, false, false, false, false, false, false, false, false, false, false] rfl (by kernel_rfl) (by kernel_rfl) (by kernel_rfl) rfl rfl (hS.pick [0, 1, 2, 3, 4, 5, 6, 7, 8] [0, 1, 2, 3, 4, 5, 6, 7, 8] rfl) (fun w hS => R_fieldB o147_0 rfl) ?_
                                      refine HL.val 3 #[true, false, true, true, false, false, false, false, false, false, false, false, false, false, false, false] rfl (by kernel_rfl) (by kernel_rfl) (by kernel_rfl) rfl rfl (hS.pick [0, 1, 2, 3, 4, 5, 6, 7, 8] [0, 1, 2, 3, 4, 5, 6, 7, 8] rfl) (fun w hS => R_fieldB o70_1 rfl) ?_
                                      refine HL.val 4 #[true, false, true, true, true, false, false, false, false, false, false, false, false, false, false, false] rfl (by kernel_rfl) (by kernel_rfl) (by kernel_rfl) rfl rfl (hS.pick [0, 1, 2, 3, 4, 5, 6, 7, 8] [0, 1, 2, 3, 4, 5, 6, 7, 8] rfl) (fun w hS => R_load1 g68 rfl (hS.cell 0 rfl rfl)) ?_
                                      refine HL.val 5 #[true, false, true, true, true, true, false, false, false, false, false, false, false, false, false, false] rfl (by kernel_rfl) (by kernel_rfl) (by kernel_rfl) rfl rfl (hS.pick [0, 1, 2, 3, 4, 5, 6, 7, 8] [0, 1, 2, 3, 4, 5, 6, 7, 8] rfl) (fun w hS => R_fieldB o214_2 rfl) ?_
                                      refine HL.val 6 #[true, false, true, true, true, true, true, false, false, false, false, false, false, false, false, false] rfl (by kernel_rfl) (by kernel_rfl) (by kernel_rfl) rfl rfl (hS.pick [0, 1, 2, 3, 4, 5, 6, 7, 8] [0, 1, 2, 3, 4, 5, 6, 7, 8] rfl) (fun w hS => R_load1 g3 rfl (hS.cell 8 rfl rfl)) ?_
                                      refine HL.val 7 #[true, false, true, true, true, true, true, true, false, false, false, false, false, false, false, false] rfl (by kernel_rfl) (by kernel_rfl) (by kernel_rfl) rfl rfl (hS.pick [0, 1, 2, 3, 4, 5, 6, 7, 8] [0, 1, 2, 3, 4, 5, 6, 7, 8] rfl) (fun w hS => R_indexAddr u68 z55 rfl rfl hA116637 (rdS hx116634).1 hq116638) ?_
                                      refine HL.val 8 #[true, false, true, true, true, true, true, true, true, false, false, false, false, false, false, false] rfl (by kernel_rfl) (by kernel_rfl) (by kernel_rfl) rfl rfl (hS.pick [0, 1, 2, 3, 4, 5, 6, 7, 8] [0, 1, 2, 3, 4, 5, 6, 7, 8] rfl) (fun w hS => R_load1 g55 rfl (hS.fc 2 rfl 0 rfl)) ?_
                                      refine HL.val 9 #[true, false, true, true, true, true, true, true, true, true, false, false, false, false, false, false] rfl (by kernel_rfl) (by kernel_rfl) (by kernel_rfl) rfl rfl (hS.pick [0, 1, 2, 3, 4, 5, 6, 7, 8] [0, 1, 2, 3, 4, 5, 6, 7, 8] rfl) (fun w hS => R_move rfl) ?_
                                      refine HL.val 10 #[true, false, true, true, true, true, true, true, true, true, true, false, false, false, false, false] rfl (by kernel_rfl) (by kernel_rfl) (by kernel_rfl) rfl rfl (hS.pick [0, 1, 2, 3, 4, 5, 6, 7, 8] [0, 1, 2, 3, 4, 5, 6, 7, 8] rfl) (fun w hS => R_indexAddr u55 z3 rfl rfl hA116648 (rdS hx116645).1 hq116649) ?_
                                      refine HL.val 11 #[true, false, true, true, true, true, true, true, true, true, true, true, false, false, false, false] rfl (by kernel_rfl) (by kernel_rfl) (by kernel_rfl) rfl rfl (hS.pick [0, 1, 2, 3, 4, 5, 6, 7, 8] [0, 1, 2, 3, 4, 5, 6, 7, 8] rfl) (fun w hS => R_load1 g3 rfl (hS.fc 0 rfl 0 rfl)) ?_
                                      refine HL.all [1, 12] (by kernel_rfl) rfl ⟨?_, ?_, trivial⟩
                                      · refine HO.of #[true, true, true, true, true, true, true, true, true, true, true, true, false, false, false, false] rfl rfl ?_
                                        refine WL.val (R_load1 g55 rfl (hS.cell 9 rfl rfl)) rfl rfl ?_
                                        refine WL.nil ?_
                                        refine HL.next (hS.pick [0, 1, 2, 3, 4, 5, 6, 7, 8] [0, 1, 2, 3, 4, 5, 6, 7, 8] rfl) ?_
                                        refine HL.all [12] (by kernel_rfl) rfl ⟨?_, trivial⟩
                                        refine HO.of #[true, true, true, true, true, true, true, true, true, true, true, true, true, false, false, false] rfl rfl ?_
                                        refine WL.lit [.int .i64 x116644] u55 rfl (by kernel_rfl) hS rfl ?_
                                        intro b116652 w hS
                                        refine WL.nil ?_
                                        refine HL.next (hS.pick [1, 2, 3, 4, 5, 6, 7, 8, 9] [0, 1, 2, 3, 4, 5, 6, 7, 8] rfl) ?_
                                        refine HL.all [13] (by kernel_rfl) rfl ⟨?_, trivial⟩
                                        refine HO.of #[true, true, true, true, true, true, true, true, true, true, true, true, true, true, false, false] rfl rfl ?_
                                        refine WL.append (R := (RI .i64)) (zs := [x116644]) 11 u55 z3 rfl rfl rfl hS rfl rfl rfl rfl (Blk.src (hS.res 0 rfl) ⟨[_], _, rfl, rfl, rfl⟩) hg116653 rfl rfl ?_
                                        intro A116654 c116655 w hS
                                        refine WL.nil ?_
                                        refine HL.next (hS.pick [1, 2, 3, 4, 5, 6, 7, 8, 9] [0, 1, 2, 3, 4, 5, 6, 7, 8] rfl) ?_
                                        refine HL.val 14 #[true, true, true, true, true, true, true, true, true, true, true, true, true, true, true, false] rfl (by kernel_rfl) (by kernel_rfl) (by kernel_rfl) rfl rfl (hS.pick [1, 2, 3, 4, 5, 6, 7, 8, 9] [0, 1, 2, 3, 4, 5, 6, 7, 8] rfl) (fun w hS => R_fieldB o58_4 rfl) ?_
                                        refine HL.all [15] (by kernel_rfl) rfl ⟨?_, trivial⟩
                                        refine HO.of #[true, true, true, true, true, true, true, true, true, true, true, true, true, true, true, true] rfl rfl ?_
                                        refine WL.storeB 10 [.slice A116654 ((y116514 ++ [x116644]).length) c116655] g55 hS rfl rfl rfl rfl rfl rfl rfl [.int .u8 x116221.kind, .int .i64 x116221.value, .int .i64 x116221.feature, .float .f64 (0 : Nat), .slice A116654 ((y116514 ++ [x116644]).length) c116655, .int .u8 x116221.missing, .int .i64 x116221.left, .int .i64 x116221.right] rfl ?_
                                        intro w hS
                                        refine WL.nil ?_
                                        refine HL.next (hS.pick [1, 2, 3, 4, 5, 6, 7, 8, 9] [0, 1, 2, 3, 4, 5, 6, 7, 8] rfl) ?_
                                        refine HL.done (by kernel_rfl) (HL.keepQ ?_)
                                        refine WQ.blockN ?_
                                        have hS := hS.pick [1, 2, 3, 4, 5, 6, 7, 8, 9, 10, 11] [3, 4, 5, 6, 7, 8] rfl
                                        exact WQ.toJ ⟨(y116514 ++ [x116644]), A116654, (y116514 ++ [x116644]).length, c116655, Option.some.inj h, rfl, hS⟩ ⟨rfl, rfl, rfl, rfl, rfl, rfl, rfl, rfl, rfl, rfl, rfl, rfl, rfl, rfl, rfl, trivial⟩
                                      · refine HO.of #[true, false, true, true, true, true, true, true, true, true, true, true, true, false, false, false] rfl rfl ?_
                                        refine WL.lit [.int .i64 x116644] u55 rfl (by kernel_rfl) hS rfl ?_
                                        intro b116652 w hS
                                        refine WL.nil ?_
                                        refine HL.next (hS.pick [1, 2, 3, 4, 5, 6, 7, 8, 9] [0, 1, 2, 3, 4, 5, 6, 7, 8] rfl) ?_
                                        refine HL.all [1] (by kernel_rfl) rfl ⟨?_, trivial⟩
                                        refine HO.of #[true, true, true, true, true, true, true, true, true, true, true, true, true, false, false, false] rfl rfl ?_
                                        refine WL.val (R_load1 g55 rfl (hS.cell 10 rfl rfl)) rfl rfl ?_
                                        refine WL.nil ?_
                                        refine HL.next (hS.pick [1, 2, 3, 4, 5, 6, 7, 8, 9] [0, 1, 2, 3, 4, 5, 6, 7, 8] rfl) ?_
                                        refine HL.all [13] (by kernel_rfl) rfl ⟨?_, trivial⟩
                                        refine HO.of #[true, true, true, true, true, true, true, true, true, true, true, true, true, true, false, false] rfl rfl ?_
                                        refine WL.append (R := (RI .i64)) (zs := [x116644]) 11 u55 z3 rfl rfl rfl hS rfl rfl rfl rfl (Blk.src (hS.res 0 rfl) ⟨[_], _, rfl, rfl, rfl⟩) hg116653 rfl rfl ?_
                                        intro A116654 c116655 w hS
                                        refine WL.nil ?_
                                        refine HL.next (hS.pick [1, 2, 3, 4, 5, 6, 7, 8, 9] [0, 1, 2, 3, 4, 5, 6, 7, 8] rfl) ?_
                                        refine HL.val 14 #[true, true, true, true, true, true, true, true, true, true, true, true, true, true, true, false] rfl (by kernel_rfl) (by kernel_rfl) (by kernel_rfl) rfl rfl (hS.pick [1, 2, 3, 4, 5, 6, 7, 8, 9] [0, 1, 2, 3, 4, 5, 6, 7, 8] rfl) (fun w hS => R_fieldB o58_4 rfl) ?_
                                        refine HL.all [15] (by kernel_rfl) rfl ⟨?_, trivial⟩
                                        refine HO.of #[true, true, true, true, true, true, true, true, true, true, true, true, true, true, true, true] rfl rfl ?_
                                        refine WL.storeB 10 [.slice A116654 ((y116514 ++ [x116644]).length) c116655] g55 hS rfl rfl rfl rfl rfl rfl rfl [.int .u8 x116221.kind, .int .i64 x116221.value, .int .i64 x116221.feature, .float .f64 (0 : Nat), .slice A116654 ((y116514 ++ [x116644]).length) c116655, .int .u8 x116221.missing, .int .i64 x116221.left, .int .i64 x116221.right] rfl ?_
                                        intro w hS
                                        refine WL.nil ?_
                                        refine HL.next (hS.pick [1, 2, 3, 4, 5, 6, 7, 8, 9] [0, 1, 2, 3, 4, 5, 6, 7, 8] rfl) ?_
                                        refine HL.done (by kernel_rfl) (HL.keepQ ?_)
                                        refine WQ.blockN ?_
                                        have hS := hS.pick [1, 2, 3, 4, 5, 6, 7, 8, 9, 10, 11] [3, 4, 5, 6, 7, 8] rfl
                                        exact WQ.toJ ⟨(y116514 ++ [x116644]), A116654, (y116514 ++ [x116644]).length, c116655, Option.some.inj h, rfl, hS⟩ ⟨rfl, rfl, rfl, rfl, rfl, rfl, rfl, rfl, rfl, rfl, rfl, rfl, rfl, rfl, rfl, trivial⟩
                                    · rintro _ w ⟨y116621, A116618, n116619, c116620, rfl, rfl, hS⟩
                                      have h := h116624
                                      try dsimp only at h
                                      obtain rfl := Row.len (hS.res 10 rfl)
                                      refine WC.reg ?_
                                      refine WL.val (R_ar rfl rfl rfl) rfl rfl ?_
                                      refine WL.val (R_move rfl) rfl rfl ?_
                                      refine WL.nil ?_
                                      have hS := hS.pick [0, 1, 2, 3, 4, 5, 6, 7, 8, 9, 10] [0, 1, 2, 3, 4, 5] rfl
                                      exact WQ.toJ ⟨y116621, (IntKind.i64.wrap (y116515 + (1 : Int))), A116618, y116621.length, c116620, rfl, hS, h⟩ ⟨rfl, rfl, rfl, rfl, rfl, rfl, rfl, rfl, rfl, rfl, rfl, rfl, rfl, rfl, rfl, trivial⟩
                                  · have h := ifF hb116586 h
                                    refine WC.exit ?_
                                    refine WQ.thenE ?_
                                    refine WQ.thenE ?_
                                    refine WQ.blockE ?_
                                    refine WQ.blockN ?_
                                    have hS := hS.pick [0, 1, 2, 3, 4, 5, 6, 7, 9, 10] [0, 1, 3, 4, 5] rfl
                                    exact WQ.toJ ⟨(0 : Nat), y116514, A116511, y116514.length, c116513, Option.some.inj h, rfl, hS⟩ ⟨rfl, rfl, rfl, rfl, rfl, rfl, rfl, rfl, rfl, rfl, rfl, trivial⟩
                              · have h := ifF hb116440 h
                                refine WC.reg ?_
                                refine WL.val (R_fieldB o58_4 rfl) rfl rfl ?_
                                refine WL.val (R_load1 g55 rfl (hS.cell 0 rfl rfl)) rfl rfl ?_
                                refine WL.val (R_fieldB o214_4 rfl) rfl rfl ?_
                                refine WL.val (R_load1 g55 rfl (hS.cell 1 rfl rfl)) rfl rfl ?_
                                have hS := hS.nilRow (RI .i64) 3
                                obtain ⟨hg116656, h⟩ := grdS h
                                refine WL.append (R := (RI .i64)) (zs := x116221.cats) 0 u55 z3 rfl rfl rfl hS rfl rfl rfl rfl (Sl.src (hS.sl 0 rfl).2) hg116656 rfl rfl ?_
                                intro A116657 c116658 w hS
                                refine WL.val (R_fieldB o58_4 rfl) rfl rfl ?_
                                refine WL.storeB 1 [.slice A116657 ((([] : List Int) ++ x116221.cats).length) c116658] g55 hS rfl rfl rfl rfl rfl rfl rfl [.int .u8 x116221.kind, .int .i64 x116221.value, .int .i64 x116221.feature, .float .f64 (0 : Nat), .slice A116657 ((([] : List Int) ++ x116221.cats).length) c116658, .int .u8 x116221.missing, .int .i64 x116221.left, .int .i64 x116221.right] rfl ?_
                                intro w hS
                                refine WL.nil ?_
                                refine WQ.blockN ?_
                                have hS := hS.pick [3, 4, 5, 6, 7, 8, 9, 10, 1, 0] [1, 2, 3, 4, 5] rfl
                                exact WQ.toJ ⟨(0 : Nat), (([] : List Int) ++ x116221.cats), A116657, (([] : List Int) ++ x116221.cats).length, c116658, Option.some.inj h, rfl, hS⟩ ⟨rfl, rfl, rfl, rfl, rfl, rfl, rfl, rfl, rfl, rfl, rfl, trivial⟩
                          · rintro _ w ⟨y116409, y116413, A116410, n116411, c116412, rfl, rfl, hS⟩
                            have h := h116416
                            try dsimp only at h
                            obtain rfl := Row.len (hS.res 9 rfl)
                            refine WC.reg ?_
                            refine WL.val (R_fieldB o52_1 rfl) rfl rfl ?_
                            refine WL.val (R_load1 g50 rfl (hS.cell 6 rfl rfl)) rfl rfl ?_
                            refine WL.val (R_loadA g58 rfl rfl (hS.cells 8 (o := 0) (m := 8) rfl rfl)) rfl rfl ?_
                            refine WL.lit [.int .u8 x116221.kind, .int .i64 x116221.value, .int .i64 x116221.feature, .float .f64 y116409, .slice A116410 y116413.length c116412, .int .u8 x116221.missing, .int .i64 x116221.left, .int .i64 x116221.right] u50 rfl (by kernel_rfl) hS rfl ?_
                            intro b116659 w hS
                            have hS := hS.freeze 10 rfl
                            obtain ⟨hg116660, h⟩ := grdS h
                            refine WL.append (R := RNode) (zs := [(⟨x116221.kind, x116221.value, x116221.feature, y116409, y116413, x116221.missing, x116221.left, x116221.right⟩ : Node)]) 8 u50 z58 rfl rfl rfl hS rfl rfl rfl rfl (Blk.src (hS.res 0 rfl) ⟨[_, _, _, _, _, _, _, _], _, rfl, ⟨A116410, c116412, rfl, hS.sl 0 rfl⟩, rfl⟩) hg116660 rfl rfl ?_
                            intro A116661 c116662 w hS
                            refine WL.val (R_fieldB o52_1 rfl) rfl rfl ?_
                            refine WL.storeB 7 [.slice A116661 ((y115087 ++ [(⟨x116221.kind, x116221.value, x116221.feature, y116409, y116413, x116221.missing, x116221.left, x116221.right⟩ : Node)]).length) c116662] g50 hS rfl rfl rfl rfl rfl rfl rfl [.int .i64 x112803.output, .slice A116661 ((y115087 ++ [(⟨x116221.kind, x116221.value, x116221.feature, y116409, y116413, x116221.missing, x116221.left, x116221.right⟩ : Node)]).length) c116662] rfl ?_
                            intro w hS
                            refine WL.nil ?_
                            refine WQ.blockN ?_
                            have hS := hS.pick [1, 2, 3, 4, 5, 6, 7, 8] [1, 2, 3, 4, 5] rfl
                            exact WQ.toJ ⟨(y115087 ++ [(⟨x116221.kind, x116221.value, x116221.feature, y116409, y116413, x116221.missing, x116221.left, x116221.right⟩ : Node)]), A116661, (y115087 ++ [(⟨x116221.kind, x116221.value, x116221.feature, y116409, y116413, x116221.missing, x116221.left, x116221.right⟩ : Node)]).length, c116662, Option.some.inj h, rfl, hS⟩ ⟨rfl, rfl, rfl, rfl, rfl, rfl, rfl, rfl, rfl, rfl, trivial⟩
                      · rintro _ w ⟨y116217, A116214, n116215, c116216, rfl, rfl, hS⟩
                        have h := h116220
                        try dsimp only at h
                        obtain rfl := Row.len (hS.res 7 rfl)
                        refine WC.reg ?_
                        refine WL.val (R_ar rfl rfl rfl) rfl rfl ?_
                        refine WL.val (R_move rfl) rfl rfl ?_
                        refine WL.nil ?_
                        have hS := hS.pick [0, 1, 2, 3, 4, 5, 6, 7] [0, 1, 2, 3, 4] rfl
                        exact WQ.toJ ⟨y116217, (IntKind.i64.wrap (y115088 + (1 : Int))), A116214, y116217.length, c116216, rfl, hS, h⟩ ⟨rfl, rfl, rfl, rfl, rfl, rfl, rfl, rfl, rfl, rfl, trivial⟩
                    · have h := ifF hb115841 h
                      refine WC.exit ?_
                      refine WQ.thenE ?_
                      refine WQ.thenE ?_
                      refine WQ.blockE ?_
                      have hS := hS.pick [0, 1, 2, 3, 4, 5, 6, 7] [0, 2, 3, 4] rfl
                      exact WQ.toJ ⟨y115087, A115084, y115087.length, c115086, Option.some.inj h, rfl, hS⟩ ⟨rfl, rfl, rfl, rfl, rfl, rfl, rfl, trivial⟩
                · rintro _ w ⟨y114328, A114325, n114326, c114327, rfl, rfl, hS⟩
                  have h := h114331
                  try dsimp only at h
                  obtain rfl := Row.len (hS.res 7 rfl)
                  refine WC.reg ?_
                  refine WL.val (R_fieldB o26_4 rfl) rfl rfl ?_
                  refine WL.val (R_load1 g24 rfl (hS.cell 2 rfl rfl)) rfl rfl ?_
                  refine WL.val (R_loadA g52 rfl rfl (hS.cells 6 (o := 0) (m := 2) rfl rfl)) rfl rfl ?_
                  refine WL.lit [.int .i64 x112803.output, .slice A114325 y114328.length c114327] u24 rfl (by kernel_rfl) hS rfl ?_
                  intro b116663 w hS
                  have hS := hS.freeze 8 rfl
                  obtain ⟨hg116664, h⟩ := grdS h
                  refine WL.append (R := RTree) (zs := [(⟨x112803.output, y114328⟩ : Tree)]) 6 u24 z52 rfl rfl rfl hS rfl rfl rfl rfl (Blk.src (hS.res 0 rfl) ⟨[_, _], _, rfl, ⟨A114325, c114327, rfl, hS.sl 0 rfl⟩, rfl⟩) hg116664 rfl rfl ?_
                  intro A116665 c116666 w hS
                  refine WL.val (R_fieldB o26_4 rfl) rfl rfl ?_
                  refine WL.storeB 3 [.slice A116665 ((y103659 ++ [(⟨x112803.output, y114328⟩ : Tree)]).length) c116666] g24 hS rfl rfl rfl rfl rfl rfl rfl [.string (⟨#[98, 105, 110, 110, 101, 100]⟩ : ByteArray), .slice A85290 y85293.length c85292, .int .i64 p58195.outputs, .slice A85230 y85233.length c85232, .slice A116665 ((y103659 ++ [(⟨x112803.output, y114328⟩ : Tree)]).length) c116666] rfl ?_
                  intro w hS
                  refine WL.nil ?_
                  refine WQ.blockN ?_
                  have hS := hS.pick [1, 2, 3, 4, 5, 6] [1, 2, 3, 4] rfl
                  exact WQ.toJ ⟨(y103659 ++ [(⟨x112803.output, y114328⟩ : Tree)]), A116665, (y103659 ++ [(⟨x112803.output, y114328⟩ : Tree)]).length, c116666, Option.some.inj h, rfl, hS⟩ ⟨rfl, rfl, rfl, rfl, rfl, rfl, trivial⟩
              · rintro _ w ⟨y112799, A112796, n112797, c112798, rfl, rfl, hS⟩
                have h := h112802
                try dsimp only at h
                obtain rfl := Row.len (hS.res 5 rfl)
                refine WC.reg ?_
                refine WL.val (R_ar rfl rfl rfl) rfl rfl ?_
                refine WL.val (R_move rfl) rfl rfl ?_
                refine WL.nil ?_
                have hS := hS.pick [0, 1, 2, 3, 4, 5] [0, 1, 2, 3] rfl
                exact WQ.toJ ⟨y112799, (IntKind.i64.wrap (y103660 + (1 : Int))), A112796, y112799.length, c112798, rfl, hS, h⟩ ⟨rfl, rfl, rfl, rfl, rfl, rfl, trivial⟩
            · have h := ifF hb109753 h
              refine WC.exit ?_
              refine WQ.thenE ?_
              refine WQ.thenE ?_
              refine WQ.blockE ?_
              have hS := hS.pick [1, 2, 3, 4, 5] [] rfl
              exact WQ.toJ ⟨y103659, A103656, y103659.length, c103658, Option.some.inj h, rfl, hS⟩ ⟨rfl, rfl, trivial⟩
        · rintro _ w ⟨y97560, A97557, n97558, c97559, rfl, rfl, hS⟩
          have h := h97563
          try dsimp only at h
          obtain rfl := Row.len (hS.res 4 rfl)
          refine WC.seq ?_
          refine WC.seq ?_
          refine WC.reg ?_
          refine WL.val (R_loadA g26 rfl rfl (hS.cells 1 (o := 0) (m := 5) rfl rfl)) rfl rfl ?_
          have hS := hS.freeze 2 rfl
          have hS := hS.freeze 2 rfl
          have hS := hS.freeze 2 rfl
          obtain ⟨r116667, hr116668, h⟩ := bindS h
          refine WL.call e26 rfl rfl hS (rules_Valid_ok (hS).mx_lt k (⟨(⟨#[98, 105, 110, 110, 101, 100]⟩ : ByteArray), y85293, p58195.outputs, y85233, y97560⟩ : Ensemble) (hS.sl 2 rfl) (hS.sl 1 rfl) (hS.sl 0 rfl) _ hr116668) rfl ?_
          intro v w hB hS hP
          obtain ⟨rfl⟩ := hP
          refine WL.val (R_not rfl) rfl rfl ?_
          refine WL.nil ?_
          refine WQ.thenC ?_
          refine WC.cond rfl (fun hb116669 => ?_) (fun hb116669 => ?_)
          · have h := ifT hb116669 h
            refine WC.seq ?_
            refine WC.reg ?_
            refine WL.val (R_build (cells := #[.string (⟨#[]⟩ : ByteArray), .slice none 0 0, .int .i64 (0 : Int), .slice none 0 0, .slice none 0 0]) rfl (by kernel_rfl)) rfl rfl ?_
            refine WL.storeB 0 [.string (⟨#[]⟩ : ByteArray), .slice none 0 0, .int .i64 (0 : Int), .slice none 0 0, .slice none 0 0] g26 hS rfl rfl rfl rfl rfl rfl rfl [.string (⟨#[]⟩ : ByteArray), .slice none 0 0, .int .i64 (0 : Int), .slice none 0 0, .slice none 0 0] rfl ?_
            intro w hS
            refine WL.val (R_assign rfl) rfl rfl ?_
            refine WL.nil ?_
            refine WQ.thenC ?_
            refine WC.ret ?_
            refine WQ.thenR ?_
            have hS0 := hS
            have h := Option.some.inj h
            obtain ⟨rfl, rfl⟩ := Prod.mk.inj h
            exact ret_2 rfl (resV_B 0 hS0 rfl rfl g26 rfl) rfl ⟨_, rfl, hS.bel, ⟨none, 0, none, 0, none, 0, rfl, slnil, slnil, slnil⟩⟩
          · have h := ifF hb116669 h
            refine WC.skip ?_
            refine WQ.thenC ?_
            refine WC.seq ?_
            refine WC.reg ?_
            refine WL.val (R_loadA g26 rfl rfl (hS.cells 1 (o := 0) (m := 5) rfl rfl)) rfl rfl ?_
            refine WL.storeB 0 [.string (⟨#[98, 105, 110, 110, 101, 100]⟩ : ByteArray), .slice A85290 y85293.length c85292, .int .i64 p58195.outputs, .slice A85230 y85233.length c85232, .slice A97557 y97560.length c97559] g26 hS rfl rfl rfl rfl rfl rfl rfl [.string (⟨#[98, 105, 110, 110, 101, 100]⟩ : ByteArray), .slice A85290 y85293.length c85292, .int .i64 p58195.outputs, .slice A85230 y85233.length c85232, .slice A97557 y97560.length c97559] rfl ?_
            intro w hS
            refine WL.val (R_assign rfl) rfl rfl ?_
            refine WL.nil ?_
            refine WQ.thenC ?_
            refine WC.ret ?_
            have hS0 := hS
            have h := Option.some.inj h
            obtain ⟨rfl, rfl⟩ := Prod.mk.inj h
            exact ret_2 rfl (resV_B 0 hS0 rfl rfl g26 rfl) rfl ⟨_, rfl, hS.bel, ⟨A85290, c85292, A85230, c85232, A97557, c97559, rfl, hS.out 2 rfl, hS.out 1 rfl, hS.out 0 rfl⟩⟩

def bins_code_1 (p116783 : Int) : Option Nat :=
    some (FloatKind.f64.nearest p116783)

theorem bins_code_1_ok {w0 : World} {M : MSet} (hM : ∀ k, M k → k < w0.heap.size) (p116783 : Int) (r : Nat) (h : bins_code_1 p116783 = some r) :
    Calls Tryz.prog 140 #[.int .i64 p116783] w0 (Gives w0 fun v w' => v = .float .f64 r) := by
  have hS := Sta.init hM
  unfold bins_code_1 at h
  refine calls_enter (n := 0) Tryz.func140 rfl [(0, .int .i64 p116783)] rfl rfl ⟨rfl, trivial⟩ ?_
  refine WC.seq ?_
  refine WC.reg ?_
  refine WL.val (R_assign rfl) rfl rfl ?_
  refine WL.nil ?_
  refine WQ.thenC ?_
  refine WC.seq ?_
  refine WC.reg ?_
  refine WL.val (R_move rfl) rfl rfl ?_
  refine WL.val (R_convF ⟨_, u3⟩ u54 rfl) rfl rfl ?_
  refine WL.val (R_assign rfl) rfl rfl ?_
  refine WL.nil ?_
  refine WQ.thenC ?_
  refine WC.ret ?_
  have hS0 := hS
  obtain rfl := Option.some.inj h
  exact ret_1 rfl rfl ⟨_, rfl, hS.bel, rfl⟩

def bins_below_int_float64__bins_code_1_l0 (k : Nat) (p116769 : List Int) (p116773 : Nat) : Nat → Int → Int → Option Int
  | 0, _, _ => none
  | m + 1, y116873, y116874 =>
    if decide (y116873 < y116874) = true then ((rd p116769 (IntKind.i64.wrap (Int.tdiv (IntKind.i64.wrap (y116873 + y116874)) (2 : Int)))).bind fun x116888 =>
    (bins_code_1 x116888).bind fun r116896 =>
    if (cmpF .lss r116896 p116773) = true then (bins_below_int_float64__bins_code_1_l0 k p116769 p116773 m (IntKind.i64.wrap ((IntKind.i64.wrap (Int.tdiv (IntKind.i64.wrap (y116873 + y116874)) (2 : Int))) + (1 : Int))) y116874) else (bins_below_int_float64__bins_code_1_l0 k p116769 p116773 m y116873 (IntKind.i64.wrap (Int.tdiv (IntKind.i64.wrap (y116873 + y116874)) (2 : Int))))) else (some y116873)

def bins_below_int_float64__bins_code_1 (k : Nat) (p116769 : List Int) (p116773 : Nat) : Option Int :=
    (bins_below_int_float64__bins_code_1_l0 k p116769 p116773 k (0 : Int) (p116769.length : Int) : Option Int).bind fun y116857 =>
    some y116857

theorem bins_below_int_float64__bins_code_1_ok {w0 : World} {M : MSet} (hM : ∀ k, M k → k < w0.heap.size) (k : Nat) (p116769 : List Int) (p116773 : Nat) {A116770 : Option Addr} {c116771 : Nat} (hs116772 : p116769.length ≤ c116771 ∧ Sl (RI .i64) M w0 A116770 p116769) (r : Int) (h : bins_below_int_float64__bins_code_1 k p116769 p116773 = some r) :
    Calls Tryz.prog 139 #[.slice A116770 p116769.length c116771, .func (.func 140) #[] #[], .float .f64 p116773] w0 (Gives w0 fun v w' => v = .int .i64 r) := by
  have hS := Sta.init hM
  have hS := hS.arg hs116772
  unfold bins_below_int_float64__bins_code_1 at h
  refine calls_enter (n := 0) Tryz.func139 rfl [(0, .slice A116770 p116769.length c116771), (1, .func (.func 140) #[] #[]), (2, .float .f64 p116773)] rfl rfl ⟨rfl, rfl, rfl, trivial⟩ ?_
  refine WC.seq ?_
  refine WC.reg ?_
  refine WL.val (R_assign rfl) rfl rfl ?_
  refine WL.nil ?_
  refine WQ.thenC ?_
  refine WC.seq ?_
  refine WC.reg ?_
  refine WL.val (R_move rfl) rfl rfl ?_
  refine WL.val (R_lenS u55 rfl) rfl rfl ?_
  refine WL.val (R_assign rfl) rfl rfl ?_
  refine WL.val (R_assign rfl) rfl rfl ?_
  refine WL.nil ?_
  refine WQ.thenC ?_
  obtain ⟨o116858, h116859, h116860⟩ := bindS h
  refine WC.seqM (fun env w => ∃ (y116857 : Int), y116857 = o116858 ∧ env = [(7, .int .i64 y116857)] ∧ Sta w0 M [] [] w) ?_ ?_
  · have h := h116859
    refine WC.block ?_
    have hS := hS.pick [] [0] rfl
    refine WC.loopJ (fun m env w => ∃ (y116873 : Int), ∃ (y116874 : Int), env = [(0, .slice A116770 p116769.length c116771), (1, .func (.func 140) #[] #[]), (2, .float .f64 p116773), (7, .int .i64 y116873), (8, .int .i64 y116874)] ∧ Sta w0 M [] [FSl (RI .i64) A116770 c116771 p116769] w ∧ bins_below_int_float64__bins_code_1_l0 k p116769 p116773 m y116873 y116874 = some o116858) k ⟨(0 : Int), (p116769.length : Int), rfl, hS, h⟩ ⟨rfl, rfl, rfl, rfl, rfl, trivial⟩ (fun env w hI => ?_) (fun m env w hI => ?_)
    · obtain ⟨y116873, y116874, rfl, hS, h⟩ := hI
      rw [bins_below_int_float64__bins_code_1_l0] at h
      cases h
    · obtain ⟨y116873, y116874, rfl, hS, h⟩ := hI
      rw [bins_below_int_float64__bins_code_1_l0] at h
      refine WC.seq ?_
      refine WC.seq ?_
      refine WC.reg ?_
      refine WL.val (R_move rfl) rfl rfl ?_
      refine WL.val (R_move rfl) rfl rfl ?_
      refine WL.val (R_cmp rfl rfl rfl) rfl rfl ?_
      refine WL.nil ?_
      refine WQ.thenC ?_
      refine WC.cond rfl (fun hb116887 => ?_) (fun hb116887 => ?_)
      · have h := ifT hb116887 h
        refine WC.skip ?_
        refine WQ.thenC ?_
        refine WC.block ?_
        refine WC.seq ?_
        refine WC.reg ?_
        refine WL.val (R_move rfl) rfl rfl ?_
        refine WL.val (R_move rfl) rfl rfl ?_
        refine WL.val (R_ar rfl rfl rfl) rfl rfl ?_
        refine WL.val (R_quo rfl rfl (by decide)) rfl rfl ?_
        refine WL.val (R_assign rfl) rfl rfl ?_
        refine WL.nil ?_
        refine WQ.thenC ?_
        refine WC.seq ?_
        refine WC.reg ?_
        refine WL.val (R_move rfl) rfl rfl ?_
        refine WL.val (R_move rfl) rfl rfl ?_
        refine WL.val (R_move rfl) rfl rfl ?_
        obtain ⟨x116888, hx116889, h⟩ := bindS h
        obtain ⟨ad116890, cs116891, hA116892, hq116893, hK116894, hc116895⟩ := hS.sget 0 rfl (rdS hx116889).2.2
        obtain rfl := hK116894
        refine WL.val (R_indexAddr u55 z3 rfl rfl hA116892 (rdS hx116889).1 hq116893) rfl rfl ?_
        refine WL.val (R_load1 g3 rfl (hc116895 0 _ rfl)) rfl rfl ?_
        obtain ⟨r116896, hr116897, h⟩ := bindS h
        refine WL.call e140 rfl rfl hS (bins_code_1_ok (hS).mx_lt x116888  _ hr116897) rfl ?_
        intro v w hB hS hP
        obtain ⟨rfl⟩ := hP
        refine WL.val (R_move rfl) rfl rfl ?_
        refine WL.val (R_cmpF rfl rfl rfl) rfl rfl ?_
        refine WL.nil ?_
        refine WQ.thenC ?_
        refine WC.cond rfl (fun hb116898 => ?_) (fun hb116898 => ?_)
        · have h := ifT hb116898 h
          refine WC.reg ?_
          refine WL.val (R_move rfl) rfl rfl ?_
          refine WL.val (R_ar rfl rfl rfl) rfl rfl ?_
          refine WL.val (R_assign rfl) rfl rfl ?_
          refine WL.nil ?_
          refine WQ.blockN ?_
          have hS := hS.pick [] [0] rfl
          exact WQ.toJ ⟨(IntKind.i64.wrap ((IntKind.i64.wrap (Int.tdiv (IntKind.i64.wrap (y116873 + y116874)) (2 : Int))) + (1 : Int))), y116874, rfl, hS, h⟩ ⟨rfl, rfl, rfl, rfl, rfl, trivial⟩
        · have h := ifF hb116898 h
          refine WC.reg ?_
          refine WL.val (R_move rfl) rfl rfl ?_
          refine WL.val (R_assign rfl) rfl rfl ?_
          refine WL.nil ?_
          refine WQ.blockN ?_
          have hS := hS.pick [] [0] rfl
          exact WQ.toJ ⟨y116873, (IntKind.i64.wrap (Int.tdiv (IntKind.i64.wrap (y116873 + y116874)) (2 : Int))), rfl, hS, h⟩ ⟨rfl, rfl, rfl, rfl, rfl, trivial⟩
      · have h := ifF hb116887 h
        refine WC.exit ?_
        refine WQ.thenE ?_
        refine WQ.thenE ?_
        refine WQ.blockE ?_
        have hS := hS.pick [] [] rfl
        exact WQ.toJ ⟨y116873, Option.some.inj h, rfl, hS⟩ ⟨rfl, trivial⟩
  · rintro _ w ⟨y116857, rfl, rfl, hS⟩
    have h := h116860
    try dsimp only at h
    refine WC.seq ?_
    refine WC.reg ?_
    refine WL.val (R_move rfl) rfl rfl ?_
    refine WL.val (R_assign rfl) rfl rfl ?_
    refine WL.nil ?_
    refine WQ.thenC ?_
    refine WC.ret ?_
    have hS0 := hS
    obtain rfl := Option.some.inj h
    exact ret_1 rfl rfl ⟨_, rfl, hS.bel, rfl⟩

def bins_code (k : Nat) (p116709 : Bins) (p116716 : Int) (p116717 : Nat) : Option Code :=
    if (cmpF .neq p116717 p116717) = true then (some (⟨(0 : Int), (-1 : Int), true⟩ : Code)) else (((rd p116709.cuts p116716).bind fun x116953 =>
    (order_Key p116717).bind fun r116964 =>
    (bins_below_float64_uint64__order_Key k x116953 r116964).bind fun r116966 =>
    some r116966 : Option Int).bind fun y116949 =>
    (rd p116709.cats p116716).bind fun x116969 =>
    (bins_below_int_float64__bins_code_1 k x116969 p116717).bind fun r116980 =>
    if decide (r116980 < (x116969.length : Int)) = true then ((rd x116969 r116980).bind fun x117001 =>
    if (cmpF .eql (FloatKind.f64.nearest x117001) p116717) = true then (some (⟨y116949, r116980, false⟩ : Code)) else (some (⟨y116949, (-1 : Int), false⟩ : Code))) else (some (⟨y116949, (-1 : Int), false⟩ : Code)))

theorem bins_code_ok {w0 : World} {M : MSet} (hM : ∀ k, M k → k < w0.heap.size) (k : Nat) (p116709 : Bins) (p116716 : Int) (p116717 : Nat) {A116710 : Option Addr} {c116711 : Nat} (hs116712 : p116709.cuts.length ≤ c116711 ∧ Sl (RSl RF) M w0 A116710 p116709.cuts) {A116713 : Option Addr} {c116714 : Nat} (hs116715 : p116709.cats.length ≤ c116714 ∧ Sl (RSl (RI .i64)) M w0 A116713 p116709.cats) (r : Code) (h : bins_code k p116709 p116716 p116717 = some r) :
    Calls Tryz.prog 83 #[.agg #[.slice A116710 p116709.cuts.length c116711, .slice A116713 p116709.cats.length c116714], .int .i64 p116716, .float .f64 p116717] w0 (Gives w0 fun v w' => v = .agg #[.int .i64 r.bin, .int .i64 r.cat, .bool r.lost]) := by
  have hS := Sta.init hM
  have hS := hS.arg hs116712
  have hS := hS.arg hs116715
  unfold bins_code at h
  refine calls_enter (n := 0) Tryz.func83 rfl [(0, .agg #[.slice A116710 p116709.cuts.length c116711, .slice A116713 p116709.cats.length c116714]), (1, .int .i64 p116716), (2, .float .f64 p116717)] rfl rfl ⟨rfl, rfl, rfl, trivial⟩ ?_
  refine WC.seq ?_
  refine WC.reg ?_
  refine WL.box [.slice A116710 p116709.cuts.length c116711, .slice A116713 p116709.cats.length c116714] rfl rfl hS rfl ?_
  intro b116929 w hS
  refine WL.alloc _ z76 rfl hS rfl ?_
  intro b116930 w hS
  refine WL.nil ?_
  refine WQ.thenC ?_
  refine WC.seq ?_
  refine WC.seq ?_
  refine WC.reg ?_
  refine WL.val (R_move rfl) rfl rfl ?_
  refine WL.val (R_move rfl) rfl rfl ?_
  refine WL.val (R_cmpF rfl rfl rfl) rfl rfl ?_
  refine WL.nil ?_
  refine WQ.thenC ?_
  refine WC.cond rfl (fun hb116931 => ?_) (fun hb116931 => ?_)
  · have h := ifT hb116931 h
    refine WC.seq ?_
    refine WC.reg ?_
    refine WL.val (R_build (cells := #[.int .i64 (0 : Int), .int .i64 (-1 : Int), .bool true]) rfl (by kernel_rfl)) rfl rfl ?_
    refine WL.storeB 0 [.int .i64 (0 : Int), .int .i64 (-1 : Int), .bool true] g76 hS rfl rfl rfl rfl rfl rfl rfl [.int .i64 (0 : Int), .int .i64 (-1 : Int), .bool true] rfl ?_
    intro w hS
    refine WL.nil ?_
    refine WQ.thenC ?_
    refine WC.ret ?_
    refine WQ.thenR ?_
    have hS0 := hS
    obtain rfl := Option.some.inj h
    exact ret_1 rfl (resV_B 0 hS0 rfl rfl g76 rfl) ⟨_, rfl, hS.bel, rfl⟩
  · have h := ifF hb116931 h
    refine WC.skip ?_
    refine WQ.thenC ?_
    obtain ⟨o116950, h116951, h116952⟩ := bindS h
    refine WC.seqM (fun env w => ∃ (y116949 : Int), ∃ (b116948 : Nat), y116949 = o116950 ∧ env = [(1, .int .i64 p116716), (2, .float .f64 p116717), (3, .pointer (some ⟨b116929, 0, none⟩)), (6, .pointer (some ⟨b116930, 0, none⟩)), (7, .pointer (some ⟨b116948, 0, none⟩))] ∧ Sta w0 M [Blk b116929 [.slice A116710 p116709.cuts.length c116711, .slice A116713 p116709.cats.length c116714] 70, Blk b116930 [.int .i64 (0 : Int), .int .i64 (0 : Int), .bool false] 76, Blk b116948 [.int .i64 y116949, .int .i64 (-1 : Int), .bool false] 76] [FSl (RSl RF) A116710 c116711 p116709.cuts, FSl (RSl (RI .i64)) A116713 c116714 p116709.cats] w) ?_ ?_
    · have h := h116951
      obtain ⟨x116953, hx116954, h⟩ := bindS h
      obtain ⟨r116964, hr116965, h⟩ := bindS h
      obtain ⟨r116966, hr116967, h⟩ := bindS h
      obtain ⟨ad116955, cs116956, hA116957, hq116958, hK116959, hS⟩ := hS.hoist 1 rfl (rdS hx116954).2.2
      obtain ⟨A116961, c116962, rfl, hs116963⟩ := hK116959
      have hS := hS.addF (FSl RF A116961 c116962 x116953) hs116963
      refine WC.held (Sta w0 M [Blk b116930 [.int .i64 (0 : Int), .int .i64 (0 : Int), .bool false] 76, Blk b116929 [.slice A116710 p116709.cuts.length c116711, .slice A116713 p116709.cats.length c116714] 70] [FSl RF A116961 c116962 x116953, FCs (ad116955.add (p116716.toNat * 1)) [.slice A116961 x116953.length c116962], FSl (RSl (RI .i64)) A116713 c116714 p116709.cats, FSl (RSl RF) A116710 c116711 p116709.cuts]) fol hS rfl ?_
      intro w hS
      refine HL.val 0 #[true, false, false, false, false, false, false, false, false, false, false] rfl (by kernel_rfl) (by kernel_rfl) (by kernel_rfl) rfl rfl (hS.pick [0, 1] [0, 1, 2, 3] rfl) (fun w hS => R_fieldB o70_0 rfl) ?_
      refine HL.val 1 #[true, true, false, false, false, false, false, false, false, false, false] rfl (by kernel_rfl) (by kernel_rfl) (by kernel_rfl) rfl rfl (hS.pick [0, 1] [0, 1, 2, 3] rfl) (fun w hS => R_load1 g62 rfl (hS.cell 1 rfl rfl)) ?_
      refine HL.val 2 #[true, true, true, false, false, false, false, false, false, false, false] rfl (by kernel_rfl) (by kernel_rfl) (by kernel_rfl) rfl rfl (hS.pick [0, 1] [0, 1, 2, 3] rfl) (fun w hS => R_move rfl) ?_
      refine HL.val 3 #[true, true, true, true, false, false, false, false, false, false, false] rfl (by kernel_rfl) (by kernel_rfl) (by kernel_rfl) rfl rfl (hS.pick [0, 1] [0, 1, 2, 3] rfl) (fun w hS => R_indexAddr u62 z65 rfl rfl hA116957 (rdS hx116954).1 hq116958) ?_
      refine HL.val 4 #[true, true, true, true, true, false, false, false, false, false, false] rfl (by kernel_rfl) (by kernel_rfl) (by kernel_rfl) rfl rfl (hS.pick [0, 1] [0, 1, 2, 3] rfl) (fun w hS => R_load1 g65 rfl (hS.fc 1 rfl 0 rfl)) ?_
      refine HL.val 5 #[true, true, true, true, true, true, false, false, false, false, false] rfl (by kernel_rfl) (by kernel_rfl) (by kernel_rfl) rfl rfl (hS.pick [0, 1] [0, 1, 2, 3] rfl) (fun w hS => R_move rfl) ?_
      refine HL.all [6, 9] (by kernel_rfl) rfl ⟨?_, ?_, trivial⟩
      · refine HO.of #[true, true, true, true, true, true, true, false, false, false, false] rfl rfl ?_
        refine WL.call e133 rfl rfl hS (order_Key_ok (hS).mx_lt p116717  _ hr116965) rfl ?_
        intro v w hB hS hP
        obtain ⟨rfl⟩ := hP
        refine WL.nil ?_
        refine HL.next (hS.pick [0, 1] [0, 1, 2, 3] rfl) ?_
        refine HL.all [7, 9] (by kernel_rfl) rfl ⟨?_, ?_, trivial⟩
        · refine HO.of #[true, true, true, true, true, true, true, true, false, false, false] rfl rfl ?_
          refine WL.call e132 rfl rfl hS (bins_below_float64_uint64__order_Key_ok (hS).mx_lt k x116953 r116964 (hS.sl 0 rfl) _ hr116967) rfl ?_
          intro v w hB hS hP
          obtain ⟨rfl⟩ := hP
          refine WL.nil ?_
          refine HL.next (hS.pick [0, 1] [0, 1, 2, 3] rfl) ?_
          refine HL.val 8 #[true, true, true, true, true, true, true, true, true, false, false] rfl (by kernel_rfl) (by kernel_rfl) (by kernel_rfl) rfl rfl (hS.pick [0, 1] [0, 1, 2, 3] rfl) (fun w hS => R_build (cells := #[.int .i64 r116966, .int .i64 (-1 : Int), .bool false]) rfl (by kernel_rfl)) ?_
          refine HL.all [9] (by kernel_rfl) rfl ⟨?_, trivial⟩
          refine HO.of #[true, true, true, true, true, true, true, true, true, true, false] rfl rfl ?_
          refine WL.alloc _ z76 rfl hS rfl ?_
          intro b116968 w hS
          refine WL.nil ?_
          refine HL.next (hS.pick [1, 2] [0, 1, 2, 3] rfl) ?_
          refine HL.all [10] (by kernel_rfl) rfl ⟨?_, trivial⟩
          refine HO.of #[true, true, true, true, true, true, true, true, true, true, true] rfl rfl ?_
          refine WL.storeB 0 [.int .i64 r116966, .int .i64 (-1 : Int), .bool false] g76 hS rfl rfl rfl rfl rfl rfl rfl [.int .i64 r116966, .int .i64 (-1 : Int), .bool false] rfl ?_
          intro w hS
          refine WL.nil ?_
          refine HL.next (hS.pick [1, 2] [0, 1, 2, 3] rfl) ?_
          refine HL.done (by kernel_rfl) (HL.keepQ ?_)
          have hS := hS.pick [2, 1, 0] [3, 2] rfl
          exact WQ.toJ ⟨r116966, b116968, Option.some.inj h, rfl, hS⟩ ⟨rfl, rfl, rfl, rfl, rfl, trivial⟩
        · refine HO.of #[true, true, true, true, true, true, true, false, false, true, false] rfl rfl ?_
          refine WL.alloc _ z76 rfl hS rfl ?_
          intro b116968 w hS
          refine WL.nil ?_
          refine HL.next (hS.pick [1, 2] [0, 1, 2, 3] rfl) ?_
          refine HL.all [7] (by kernel_rfl) rfl ⟨?_, trivial⟩
          refine HO.of #[true, true, true, true, true, true, true, true, false, true, false] rfl rfl ?_
          refine WL.call e132 rfl rfl hS (bins_below_float64_uint64__order_Key_ok (hS).mx_lt k x116953 r116964 (hS.sl 0 rfl) _ hr116967) rfl ?_
          intro v w hB hS hP
          obtain ⟨rfl⟩ := hP
          refine WL.nil ?_
          refine HL.next (hS.pick [1, 2] [0, 1, 2, 3] rfl) ?_
          refine HL.val 8 #[true, true, true, true, true, true, true, true, true, true, false] rfl (by kernel_rfl) (by kernel_rfl) (by kernel_rfl) rfl rfl (hS.pick [1, 2] [0, 1, 2, 3] rfl) (fun w hS => R_build (cells := #[.int .i64 r116966, .int .i64 (-1 : Int), .bool false]) rfl (by kernel_rfl)) ?_
          refine HL.all [10] (by kernel_rfl) rfl ⟨?_, trivial⟩
          refine HO.of #[true, true, true, true, true, true, true, true, true, true, true] rfl rfl ?_
          refine WL.storeB 0 [.int .i64 r116966, .int .i64 (-1 : Int), .bool false] g76 hS rfl rfl rfl rfl rfl rfl rfl [.int .i64 r116966, .int .i64 (-1 : Int), .bool false] rfl ?_
          intro w hS
          refine WL.nil ?_
          refine HL.next (hS.pick [1, 2] [0, 1, 2, 3] rfl) ?_
          refine HL.done (by kernel_rfl) (HL.keepQ ?_)
          have hS := hS.pick [2, 1, 0] [3, 2] rfl
          exact WQ.toJ ⟨r116966, b116968, Option.some.inj h, rfl, hS⟩ ⟨rfl, rfl, rfl, rfl, rfl, trivial⟩
      · refine HO.of #[true, true, true, true, true, true, false, false, false, true, false] rfl rfl ?_
        refine WL.alloc _ z76 rfl hS rfl ?_
        intro b116968 w hS
        refine WL.nil ?_
        refine HL.next (hS.pick [1, 2] [0, 1, 2, 3] rfl) ?_
        refine HL.all [6] (by kernel_rfl) rfl ⟨?_, trivial⟩
        refine HO.of #[true, true, true, true, true, true, true, false, false, true, false] rfl rfl ?_
        refine WL.call e133 rfl rfl hS (order_Key_ok (hS).mx_lt p116717  _ hr116965) rfl ?_
        intro v w hB hS hP
        obtain ⟨rfl⟩ := hP
        refine WL.nil ?_
        refine HL.next (hS.pick [1, 2] [0, 1, 2, 3] rfl) ?_
        refine HL.all [7] (by kernel_rfl) rfl ⟨?_, trivial⟩
        refine HO.of #[true, true, true, true, true, true, true, true, false, true, false] rfl rfl ?_
        refine WL.call e132 rfl rfl hS (bins_below_float64_uint64__order_Key_ok (hS).mx_lt k x116953 r116964 (hS.sl 0 rfl) _ hr116967) rfl ?_
        intro v w hB hS hP
        obtain ⟨rfl⟩ := hP
        refine WL.nil ?_
        refine HL.next (hS.pick [1, 2] [0, 1, 2, 3] rfl) ?_
        refine HL.val 8 #[true, true, true, true, true, true, true, true, true, true, false] rfl (by kernel_rfl) (by kernel_rfl) (by kernel_rfl) rfl rfl (hS.pick [1, 2] [0, 1, 2, 3] rfl) (fun w hS => R_build (cells := #[.int .i64 r116966, .int .i64 (-1 : Int), .bool false]) rfl (by kernel_rfl)) ?_
        refine HL.all [10] (by kernel_rfl) rfl ⟨?_, trivial⟩
        refine HO.of #[true, true, true, true, true, true, true, true, true, true, true] rfl rfl ?_
        refine WL.storeB 0 [.int .i64 r116966, .int .i64 (-1 : Int), .bool false] g76 hS rfl rfl rfl rfl rfl rfl rfl [.int .i64 r116966, .int .i64 (-1 : Int), .bool false] rfl ?_
        intro w hS
        refine WL.nil ?_
        refine HL.next (hS.pick [1, 2] [0, 1, 2, 3] rfl) ?_
        refine HL.done (by kernel_rfl) (HL.keepQ ?_)
        have hS := hS.pick [2, 1, 0] [3, 2] rfl
        exact WQ.toJ ⟨r116966, b116968, Option.some.inj h, rfl, hS⟩ ⟨rfl, rfl, rfl, rfl, rfl, trivial⟩
    · rintro _ w ⟨y116949, b116948, rfl, rfl, hS⟩
      have h := h116952
      try dsimp only at h
      refine WC.seq ?_
      refine WC.reg ?_
      refine WL.val (R_fieldB o70_1 rfl) rfl rfl ?_
      refine WL.val (R_load1 g68 rfl (hS.cell 0 rfl rfl)) rfl rfl ?_
      refine WL.val (R_move rfl) rfl rfl ?_
      obtain ⟨x116969, hx116970, h⟩ := bindS h
      obtain ⟨ad116971, cs116972, hA116973, hq116974, hK116975, hc116976⟩ := hS.sget 1 rfl (rdS hx116970).2.2
      obtain ⟨A116977, c116978, rfl, hs116979⟩ := hK116975
      have hS := hS.addF (FSl (RI .i64) A116977 c116978 x116969) hs116979
      refine WL.val (R_indexAddr u68 z55 rfl rfl hA116973 (rdS hx116970).1 hq116974) rfl rfl ?_
      refine WL.val (R_load1 g55 rfl (hc116976 0 _ rfl)) rfl rfl ?_
      refine WL.val (R_move rfl) rfl rfl ?_
      obtain ⟨r116980, hr116981, h⟩ := bindS h
      refine WL.call e139 rfl rfl hS (bins_below_int_float64__bins_code_1_ok (hS).mx_lt k x116969 p116717 (hS.sl 0 rfl) _ hr116981) rfl ?_
      intro v w hB hS hP
      obtain ⟨rfl⟩ := hP
      refine WL.val (R_assign rfl) rfl rfl ?_
      refine WL.nil ?_
      refine WQ.thenC ?_
      refine WC.seq ?_
      refine WC.seq ?_
      refine WC.reg ?_
      refine WL.val (R_move rfl) rfl rfl ?_
      refine WL.val (R_fieldB o70_1 rfl) rfl rfl ?_
      refine WL.val (R_load1 g68 rfl (hS.cell 0 rfl rfl)) rfl rfl ?_
      refine WL.val (R_move rfl) rfl rfl ?_
      obtain ⟨ad116982, cs116983, hA116984, hq116985, hK116986, hc116987⟩ := hS.sget 2 rfl (rdS hx116970).2.2
      obtain ⟨A116988, c116989, rfl, hs116990⟩ := hK116986
      have hS := hS.addF (FSl (RI .i64) A116988 c116989 x116969) hs116990
      refine WL.val (R_indexAddr u68 z55 rfl rfl hA116984 (rdS hx116970).1 hq116985) rfl rfl ?_
      refine WL.val (R_load1 g55 rfl (hc116987 0 _ rfl)) rfl rfl ?_
      refine WL.val (R_lenS u55 rfl) rfl rfl ?_
      refine WL.val (R_cmp rfl rfl rfl) rfl rfl ?_
      refine WL.val (R_move rfl) rfl rfl ?_
      rcases boolS h with ⟨hb116991, h⟩ | ⟨hb116991, h⟩
      · refine WL.gvalb rfl rfl rfl hb116991 (R_fieldB o70_1 rfl) rfl rfl ?_
        refine WL.gvalb rfl rfl rfl hb116991 (R_load1 g68 rfl (hS.cell 0 rfl rfl)) rfl rfl ?_
        refine WL.gvalb rfl rfl rfl hb116991 (R_move rfl) rfl rfl ?_
        obtain ⟨ad116992, cs116993, hA116994, hq116995, hK116996, hc116997⟩ := hS.sget 3 rfl (rdS hx116970).2.2
        obtain ⟨A116998, c116999, rfl, hs117000⟩ := hK116996
        have hS := hS.addF (FSl (RI .i64) A116998 c116999 x116969) hs117000
        refine WL.gvalb rfl rfl rfl hb116991 (R_indexAddr u68 z55 rfl rfl hA116994 (rdS hx116970).1 hq116995) rfl rfl ?_
        refine WL.gvalb rfl rfl rfl hb116991 (R_load1 g55 rfl (hc116997 0 _ rfl)) rfl rfl ?_
        refine WL.gvalb rfl rfl rfl hb116991 (R_move rfl) rfl rfl ?_
        obtain ⟨x117001, hx117002, h⟩ := bindS h
        obtain ⟨ad117003, cs117004, hA117005, hq117006, hK117007, hc117008⟩ := hS.sget 0 rfl (rdS hx117002).2.2
        obtain rfl := hK117007
        refine WL.gvalb rfl rfl rfl hb116991 (R_indexAddr u55 z3 rfl rfl hA117005 (rdS hx117002).1 hq117006) rfl rfl ?_
        refine WL.gvalb rfl rfl rfl hb116991 (R_load1 g3 rfl (hc117008 0 _ rfl)) rfl rfl ?_
        refine WL.gvalb rfl rfl rfl hb116991 (R_convF ⟨_, u3⟩ u54 rfl) rfl rfl ?_
        refine WL.gvalb rfl rfl rfl hb116991 (R_move rfl) rfl rfl ?_
        refine WL.gvalb rfl rfl rfl hb116991 (R_cmpF rfl rfl rfl) rfl rfl ?_
        refine WL.val (R_pickTb rfl hb116991 rfl) rfl rfl ?_
        refine WL.nil ?_
        refine WQ.thenC ?_
        refine WC.cond rfl (fun hb117009 => ?_) (fun hb117009 => ?_)
        · have h := ifT hb117009 h
          refine WC.reg ?_
          refine WL.val (R_move rfl) rfl rfl ?_
          refine WL.val (R_fieldB o76_1 rfl) rfl rfl ?_
          refine WL.storeB 2 [.int .i64 r116980] g3 hS rfl rfl rfl rfl rfl rfl rfl [.int .i64 y116949, .int .i64 r116980, .bool false] rfl ?_
          intro w hS
          refine WL.nil ?_
          refine WQ.thenC ?_
          refine WC.seq ?_
          refine WC.reg ?_
          refine WL.val (R_loadA g76 rfl rfl (hS.cells 2 (o := 0) (m := 3) rfl rfl)) rfl rfl ?_
          refine WL.storeB 1 [.int .i64 y116949, .int .i64 r116980, .bool false] g76 hS rfl rfl rfl rfl rfl rfl rfl [.int .i64 y116949, .int .i64 r116980, .bool false] rfl ?_
          intro w hS
          refine WL.nil ?_
          refine WQ.thenC ?_
          refine WC.ret ?_
          have hS0 := hS
          obtain rfl := Option.some.inj h
          exact ret_1 rfl (resV_B 1 hS0 rfl rfl g76 rfl) ⟨_, rfl, hS.bel, rfl⟩
        · have h := ifF hb117009 h
          refine WC.skip ?_
          refine WQ.thenC ?_
          refine WC.seq ?_
          refine WC.reg ?_
          refine WL.val (R_loadA g76 rfl rfl (hS.cells 2 (o := 0) (m := 3) rfl rfl)) rfl rfl ?_
          refine WL.storeB 1 [.int .i64 y116949, .int .i64 (-1 : Int), .bool false] g76 hS rfl rfl rfl rfl rfl rfl rfl [.int .i64 y116949, .int .i64 (-1 : Int), .bool false] rfl ?_
          intro w hS
          refine WL.nil ?_
          refine WQ.thenC ?_
          refine WC.ret ?_
          have hS0 := hS
          obtain rfl := Option.some.inj h
          exact ret_1 rfl (resV_B 1 hS0 rfl rfl g76 rfl) ⟨_, rfl, hS.bel, rfl⟩
      · refine WL.gskip rfl rfl rfl hb116991 rfl ?_
        refine WL.gskip rfl rfl rfl hb116991 rfl ?_
        refine WL.gskip rfl rfl rfl hb116991 rfl ?_
        refine WL.gskip rfl rfl rfl hb116991 rfl ?_
        refine WL.gskip rfl rfl rfl hb116991 rfl ?_
        refine WL.gskip rfl rfl rfl hb116991 rfl ?_
        refine WL.gskip rfl rfl rfl hb116991 rfl ?_
        refine WL.gskip rfl rfl rfl hb116991 rfl ?_
        refine WL.gskip rfl rfl rfl hb116991 rfl ?_
        refine WL.gskip rfl rfl rfl hb116991 rfl ?_
        refine WL.gskip rfl rfl rfl hb116991 rfl ?_
        refine WL.val (R_pickFb rfl hb116991 rfl) rfl rfl ?_
        refine WL.nil ?_
        refine WQ.thenC ?_
        refine WC.condF rfl ?_
        refine WC.skip ?_
        refine WQ.thenC ?_
        refine WC.seq ?_
        refine WC.reg ?_
        refine WL.val (R_loadA g76 rfl rfl (hS.cells 2 (o := 0) (m := 3) rfl rfl)) rfl rfl ?_
        refine WL.storeB 1 [.int .i64 y116949, .int .i64 (-1 : Int), .bool false] g76 hS rfl rfl rfl rfl rfl rfl rfl [.int .i64 y116949, .int .i64 (-1 : Int), .bool false] rfl ?_
        intro w hS
        refine WL.nil ?_
        refine WQ.thenC ?_
        refine WC.ret ?_
        have hS0 := hS
        obtain rfl := Option.some.inj h
        exact ret_1 rfl (resV_B 1 hS0 rfl rfl g76 rfl) ⟨_, rfl, hS.bel, rfl⟩

def bins_Codes_l0 (k : Nat) (p116691 : List Nat) (p116684 : Bins) : Nat → (List Code) → Int → Option (List Code)
  | 0, _, _ => none
  | m + 1, y117143, y117144 =>
    if decide (y117144 < (p116691.length : Int)) = true then ((rd p116691 y117144).bind fun x117161 =>
    (bins_code k p116684 y117144 x117161).bind fun r117169 =>
    if (y117143.length + 1) * 24 ≤ 140737488355328 then (bins_Codes_l0 k p116691 p116684 m (y117143 ++ [r117169]) (IntKind.i64.wrap (y117144 + (1 : Int)))) else none) else (some y117143)

def bins_Codes (k : Nat) (p116684 : Bins) (p116691 : List Nat) : Option ((List Code) × Int) :=
    (bins_Right k p116684).bind fun r117079 =>
    if (!r117079) = true then (some (([] : List Code), (200 : Int))) else (if decide ((p116691.length : Int) ≠ (p116684.cuts.length : Int)) = true then (some (([] : List Code), (72 : Int))) else ((bins_Codes_l0 k p116691 p116684 k ([] : List Code) (0 : Int) : Option (List Code)).bind fun y117121 =>
    some (y117121, (0 : Int))))

theorem bins_Codes_ok {w0 : World} {M : MSet} (hM : ∀ k, M k → k < w0.heap.size) (k : Nat) (p116684 : Bins) (p116691 : List Nat) {A116685 : Option Addr} {c116686 : Nat} (hs116687 : p116684.cuts.length ≤ c116686 ∧ Sl (RSl RF) M w0 A116685 p116684.cuts) {A116688 : Option Addr} {c116689 : Nat} (hs116690 : p116684.cats.length ≤ c116689 ∧ Sl (RSl (RI .i64)) M w0 A116688 p116684.cats) {A116692 : Option Addr} {c116693 : Nat} (hs116694 : p116691.length ≤ c116693 ∧ Sl RF M w0 A116692 p116691) (r1 : List Code) (r2 : Int) (h : bins_Codes k p116684 p116691 = some (r1, r2)) :
    Calls Tryz.prog 31 #[.agg #[.slice A116685 p116684.cuts.length c116686, .slice A116688 p116684.cats.length c116689], .slice A116692 p116691.length c116693] w0 (Gives w0 fun v w' => ∃ (Ao : Option Addr), ∃ (no co : Nat), v = .tuple #[.slice Ao no co, .int .i64 r2] ∧ (Row RCode 76 (.slice Ao no co) r1).ok w0.heap.size (Mx M [Row RCode 76 (.slice Ao no co) r1]) w') := by
  have hS := Sta.init hM
  have hS := hS.arg hs116687
  have hS := hS.arg hs116690
  have hS := hS.arg hs116694
  unfold bins_Codes at h
  refine calls_enter (n := 0) Tryz.func31 rfl [(0, .agg #[.slice A116685 p116684.cuts.length c116686, .slice A116688 p116684.cats.length c116689]), (1, .slice A116692 p116691.length c116693)] rfl rfl ⟨rfl, rfl, trivial⟩ ?_
  refine WC.seq ?_
  refine WC.reg ?_
  refine WL.box [.slice A116685 p116684.cuts.length c116686, .slice A116688 p116684.cats.length c116689] rfl rfl hS rfl ?_
  intro b117078 w hS
  refine WL.val (R_assign rfl) rfl rfl ?_
  refine WL.val (R_assign rfl) rfl rfl ?_
  refine WL.nil ?_
  refine WQ.thenC ?_
  refine WC.seq ?_
  refine WC.seq ?_
  refine WC.reg ?_
  refine WL.val (R_loadA g70 rfl rfl (hS.cells 0 (o := 0) (m := 2) rfl rfl)) rfl rfl ?_
  obtain ⟨r117079, hr117080, h⟩ := bindS h
  refine WL.call e30 rfl rfl hS (bins_Right_ok (hS).mx_lt k p116684 (hS.sl 2 rfl) (hS.sl 1 rfl) _ hr117080) rfl ?_
  intro v w hB hS hP
  obtain ⟨rfl⟩ := hP
  refine WL.val (R_not rfl) rfl rfl ?_
  refine WL.nil ?_
  refine WQ.thenC ?_
  refine WC.cond rfl (fun hb117081 => ?_) (fun hb117081 => ?_)
  · have h := ifT hb117081 h
    refine WC.seq ?_
    refine WC.reg ?_
    refine WL.val (R_assign rfl) rfl rfl ?_
    refine WL.val (R_assign rfl) rfl rfl ?_
    refine WL.nil ?_
    refine WQ.thenC ?_
    refine WC.ret ?_
    refine WQ.thenR ?_
    have hS := hS.nilRow RCode 76
    have hS0 := hS
    have hS := hS.pick [0] [0, 1, 2] rfl
    have h := Option.some.inj h
    obtain ⟨rfl, rfl⟩ := Prod.mk.inj h
    exact ret_2 rfl rfl rfl ⟨_, rfl, hS.bel, ⟨none, 0, 0, rfl, hS.res 0 rfl⟩⟩
  · have h := ifF hb117081 h
    refine WC.skip ?_
    refine WQ.thenC ?_
    refine WC.seq ?_
    refine WC.seq ?_
    refine WC.reg ?_
    refine WL.val (R_move rfl) rfl rfl ?_
    refine WL.val (R_lenS u65 rfl) rfl rfl ?_
    refine WL.val (R_fieldB o70_0 rfl) rfl rfl ?_
    refine WL.val (R_load1 g62 rfl (hS.cell 0 rfl rfl)) rfl rfl ?_
    refine WL.val (R_lenS u62 rfl) rfl rfl ?_
    refine WL.val (R_cmp rfl rfl rfl) rfl rfl ?_
    refine WL.nil ?_
    refine WQ.thenC ?_
    refine WC.cond rfl (fun hb117082 => ?_) (fun hb117082 => ?_)
    · have h := ifT hb117082 h
      refine WC.seq ?_
      refine WC.reg ?_
      refine WL.val (R_assign rfl) rfl rfl ?_
      refine WL.val (R_assign rfl) rfl rfl ?_
      refine WL.nil ?_
      refine WQ.thenC ?_
      refine WC.ret ?_
      refine WQ.thenR ?_
      have hS := hS.nilRow RCode 76
      have hS0 := hS
      have hS := hS.pick [0] [0, 1, 2] rfl
      have h := Option.some.inj h
      obtain ⟨rfl, rfl⟩ := Prod.mk.inj h
      exact ret_2 rfl rfl rfl ⟨_, rfl, hS.bel, ⟨none, 0, 0, rfl, hS.res 0 rfl⟩⟩
    · have h := ifF hb117082 h
      refine WC.skip ?_
      refine WQ.thenC ?_
      refine WC.seq ?_
      refine WC.reg ?_
      refine WL.val (R_assign rfl) rfl rfl ?_
      refine WL.nil ?_
      refine WQ.thenC ?_
      obtain ⟨o117122, h117123, h117124⟩ := bindS h
      refine WC.seqM (fun env w => ∃ (y117121 : List Code), ∃ (A117118 : Option Addr), ∃ (n117119 : Nat), ∃ (c117120 : Nat), y117121 = o117122 ∧ env = [(6, .slice A117118 n117119 c117120)] ∧ Sta w0 M [Row RCode 76 (.slice A117118 n117119 c117120) y117121] [] w) ?_ ?_
      · have h := h117123
        refine WC.seq ?_
        refine WC.reg ?_
        refine WL.val (R_move rfl) rfl rfl ?_
        refine WL.val (R_lenS u65 rfl) rfl rfl ?_
        refine WL.val (R_move rfl) rfl rfl ?_
        refine WL.nil ?_
        refine WQ.thenC ?_
        refine WC.block ?_
        have hS := hS.nilRow RCode 76
        have hS := hS.pick [1, 0] [0, 2, 1] rfl
        refine WC.loopJ (fun m env w => ∃ (y117143 : List Code), ∃ (y117144 : Int), ∃ (A117140 : Option Addr), ∃ (n117141 : Nat), ∃ (c117142 : Nat), env = [(2, .pointer (some ⟨b117078, 0, none⟩)), (6, .slice A117140 n117141 c117142), (18, .slice A116692 p116691.length c116693), (19, .int .i64 (p116691.length : Int)), (20, .int .i64 y117144)] ∧ Sta w0 M [Blk b117078 [.slice A116685 p116684.cuts.length c116686, .slice A116688 p116684.cats.length c116689] 70, Row RCode 76 (.slice A117140 n117141 c117142) y117143] [FSl RF A116692 c116693 p116691, FSl (RSl RF) A116685 c116686 p116684.cuts, FSl (RSl (RI .i64)) A116688 c116689 p116684.cats] w ∧ bins_Codes_l0 k p116691 p116684 m y117143 y117144 = some o117122) k ⟨([] : List Code), (0 : Int), none, 0, 0, rfl, hS, h⟩ ⟨rfl, rfl, rfl, rfl, rfl, trivial⟩ (fun env w hI => ?_) (fun m env w hI => ?_)
        · obtain ⟨y117143, y117144, A117140, n117141, c117142, rfl, hS, h⟩ := hI
          rw [bins_Codes_l0] at h
          cases h
        · obtain ⟨y117143, y117144, A117140, n117141, c117142, rfl, hS, h⟩ := hI
          rw [bins_Codes_l0] at h
          obtain rfl := Row.len (hS.res 1 rfl)
          refine WC.seq ?_
          refine WC.reg ?_
          refine WL.val (R_cmp rfl rfl rfl) rfl rfl ?_
          refine WL.nil ?_
          refine WQ.thenC ?_
          refine WC.seq ?_
          refine WC.cond rfl (fun hb117160 => ?_) (fun hb117160 => ?_)
          · have h := ifT hb117160 h
            refine WC.skip ?_
            refine WQ.thenC ?_
            refine WC.seq ?_
            refine WC.block ?_
            refine WC.seq ?_
            refine WC.reg ?_
            refine WL.val (R_move rfl) rfl rfl ?_
            obtain ⟨x117161, hx117162, h⟩ := bindS h
            obtain ⟨ad117163, cs117164, hA117165, hq117166, hK117167, hc117168⟩ := hS.sget 0 rfl (rdS hx117162).2.2
            obtain rfl := hK117167
            refine WL.val (R_indexAddr u65 z54 rfl rfl hA117165 (rdS hx117162).1 hq117166) rfl rfl ?_
            refine WL.val (R_load1 g54 rfl (hc117168 0 _ rfl)) rfl rfl ?_
            refine WL.val (R_assign rfl) rfl rfl ?_
            refine WL.val (R_assign rfl) rfl rfl ?_
            refine WL.nil ?_
            refine WQ.thenC ?_
            refine WC.reg ?_
            refine WL.val (R_move rfl) rfl rfl ?_
            refine WL.val (R_loadA g70 rfl rfl (hS.cells 0 (o := 0) (m := 2) rfl rfl)) rfl rfl ?_
            refine WL.val (R_move rfl) rfl rfl ?_
            refine WL.val (R_move rfl) rfl rfl ?_
            obtain ⟨r117169, hr117170, h⟩ := bindS h
            refine WL.call e83 rfl rfl hS (bins_code_ok (hS).mx_lt k p116684 y117144 x117161 (hS.sl 1 rfl) (hS.sl 2 rfl) _ hr117170) rfl ?_
            intro v w hB hS hP
            obtain ⟨rfl⟩ := hP
            refine WL.lit [.int .i64 r117169.bin, .int .i64 r117169.cat, .bool r117169.lost] u72 rfl (by kernel_rfl) hS rfl ?_
            intro b117171 w hS
            obtain ⟨hg117172, h⟩ := grdS h
            refine WL.append (R := RCode) (zs := [r117169]) 2 u72 z76 rfl rfl rfl hS rfl rfl rfl rfl (Blk.src (hS.res 0 rfl) ⟨[_, _, _], _, rfl, rfl, rfl⟩) hg117172 rfl rfl ?_
            intro A117173 c117174 w hS
            refine WL.val (R_assign rfl) rfl rfl ?_
            refine WL.nil ?_
            refine WQ.blockN ?_
            refine WQ.thenC ?_
            refine WC.reg ?_
            refine WL.val (R_ar rfl rfl rfl) rfl rfl ?_
            refine WL.val (R_move rfl) rfl rfl ?_
            refine WL.nil ?_
            have hS := hS.pick [1, 2] [0, 1, 2] rfl
            exact WQ.toJ ⟨(y117143 ++ [r117169]), (IntKind.i64.wrap (y117144 + (1 : Int))), A117173, (y117143 ++ [r117169]).length, c117174, rfl, hS, h⟩ ⟨rfl, rfl, rfl, rfl, rfl, trivial⟩
          · have h := ifF hb117160 h
            refine WC.exit ?_
            refine WQ.thenE ?_
            refine WQ.thenE ?_
            refine WQ.blockE ?_
            have hS := hS.pick [1] [] rfl
            exact WQ.toJ ⟨y117143, A117140, y117143.length, c117142, Option.some.inj h, rfl, hS⟩ ⟨rfl, trivial⟩
      · rintro _ w ⟨y117121, A117118, n117119, c117120, rfl, rfl, hS⟩
        have h := h117124
        try dsimp only at h
        obtain rfl := Row.len (hS.res 0 rfl)
        refine WC.seq ?_
        refine WC.reg ?_
        refine WL.val (R_move rfl) rfl rfl ?_
        refine WL.val (R_assign rfl) rfl rfl ?_
        refine WL.val (R_assign rfl) rfl rfl ?_
        refine WL.nil ?_
        refine WQ.thenC ?_
        refine WC.ret ?_
        have hS0 := hS
        have hS := hS.pick [0] [] rfl
        have h := Option.some.inj h
        obtain ⟨rfl, rfl⟩ := Prod.mk.inj h
        exact ret_2 rfl rfl rfl ⟨_, rfl, hS.bel, ⟨A117118, y117121.length, c117120, rfl, hS.res 0 rfl⟩⟩

def bins_fits (p117226 : Bins) (p117233 : Int) (p117234 : Code) : Option Bool :=
    if p117234.lost = true then (some (decide (p117234.bin = (0 : Int)) && (decide (p117234.cat = (-1 : Int)) && (decide (p117234.lost = true) && (true))))) else (if decide ((0 : Int) ≤ p117234.bin) = true then ((rd p117226.cuts p117233).bind fun x117267 =>
    if decide (p117234.bin ≤ (x117267.length : Int)) = true then (if decide ((-1 : Int) ≤ p117234.cat) = true then ((rd p117226.cats p117233).bind fun x117280 =>
    some (decide (p117234.cat < (x117280.length : Int)))) else (some false)) else (some false)) else (some false))

theorem bins_fits_ok {w0 : World} {M : MSet} (hM : ∀ k, M k → k < w0.heap.size) (p117226 : Bins) (p117233 : Int) (p117234 : Code) {A117227 : Option Addr} {c117228 : Nat} (hs117229 : p117226.cuts.length ≤ c117228 ∧ Sl (RSl RF) M w0 A117227 p117226.cuts) {A117230 : Option Addr} {c117231 : Nat} (hs117232 : p117226.cats.length ≤ c117231 ∧ Sl (RSl (RI .i64)) M w0 A117230 p117226.cats) (r : Bool) (h : bins_fits p117226 p117233 p117234 = some r) :
    Calls Tryz.prog 187 #[.agg #[.slice A117227 p117226.cuts.length c117228, .slice A117230 p117226.cats.length c117231], .int .i64 p117233, .agg #[.int .i64 p117234.bin, .int .i64 p117234.cat, .bool p117234.lost]] w0 (Gives w0 fun v w' => v = .bool r) := by
  have hS := Sta.init hM
  have hS := hS.arg hs117229
  have hS := hS.arg hs117232
  unfold bins_fits at h
  refine calls_enter (n := 0) Tryz.func187 rfl [(0, .agg #[.slice A117227 p117226.cuts.length c117228, .slice A117230 p117226.cats.length c117231]), (1, .int .i64 p117233), (2, .agg #[.int .i64 p117234.bin, .int .i64 p117234.cat, .bool p117234.lost])] rfl rfl ⟨rfl, rfl, rfl, trivial⟩ ?_
  refine WC.seq ?_
  refine WC.reg ?_
  refine WL.box [.slice A117227 p117226.cuts.length c117228, .slice A117230 p117226.cats.length c117231] rfl rfl hS rfl ?_
  intro b117263 w hS
  refine WL.box [.int .i64 p117234.bin, .int .i64 p117234.cat, .bool p117234.lost] rfl rfl hS rfl ?_
  intro b117264 w hS
  refine WL.val (R_assign rfl) rfl rfl ?_
  refine WL.nil ?_
  refine WQ.thenC ?_
  refine WC.seq ?_
  refine WC.seq ?_
  refine WC.reg ?_
  refine WL.val (R_fieldB o76_2 rfl) rfl rfl ?_
  refine WL.val (R_load1 g4 rfl (hS.cell 0 rfl rfl)) rfl rfl ?_
  refine WL.nil ?_
  refine WQ.thenC ?_
  refine WC.cond rfl (fun hb117265 => ?_) (fun hb117265 => ?_)
  · have h := ifT hb117265 h
    refine WC.seq ?_
    refine WC.reg ?_
    refine WL.val (R_loadA g76 rfl rfl (hS.cells 0 (o := 0) (m := 3) rfl rfl)) rfl rfl ?_
    refine WL.val (R_build (cells := #[.int .i64 (0 : Int), .int .i64 (-1 : Int), .bool true]) rfl (by kernel_rfl)) rfl rfl ?_
    refine WL.val (R_eqA (qe76 p117234.bin p117234.cat p117234.lost (0 : Int) (-1 : Int) true) rfl rfl) rfl rfl ?_
    refine WL.val (R_assign rfl) rfl rfl ?_
    refine WL.nil ?_
    refine WQ.thenC ?_
    refine WC.ret ?_
    refine WQ.thenR ?_
    have hS0 := hS
    obtain rfl := Option.some.inj h
    exact ret_1 rfl rfl ⟨_, rfl, hS.bel, rfl⟩
  · have h := ifF hb117265 h
    refine WC.skip ?_
    refine WQ.thenC ?_
    refine WC.seq ?_
    refine WC.draw fol (by kernel_rfl) hS ?_
    refine QL.val (fun _ hw => R_fieldB o76_0 rfl) rfl ?_
    refine QL.val (fun _ hw => R_load1 g3 rfl (lat hw (hS.cell 0 rfl rfl))) rfl ?_
    refine QL.val (fun _ hw => R_cmp rfl rfl rfl) rfl ?_
    refine QL.val (fun _ hw => R_move rfl) rfl ?_
    rcases boolS h with ⟨hb117266, h⟩ | ⟨hb117266, h⟩
    · refine QL.gvalb rfl rfl rfl hb117266 (fun _ hw => R_fieldB o76_0 rfl) rfl ?_
      refine QL.gvalb rfl rfl rfl hb117266 (fun _ hw => R_load1 g3 rfl (lat hw (hS.cell 0 rfl rfl))) rfl ?_
      refine QL.gvalb rfl rfl rfl hb117266 (fun _ hw => R_fieldB o70_0 rfl) rfl ?_
      refine QL.gvalb rfl rfl rfl hb117266 (fun _ hw => R_load1 g62 rfl (lat hw (hS.cell 1 rfl rfl))) rfl ?_
      refine QL.gvalb rfl rfl rfl hb117266 (fun _ hw => R_move rfl) rfl ?_
      obtain ⟨x117267, hx117268, h⟩ := bindS h
      obtain ⟨ad117269, cs117270, hA117271, hq117272, hK117273, hc117274⟩ := hS.sget 1 rfl (rdS hx117268).2.2
      obtain ⟨A117275, c117276, rfl, hs117277⟩ := hK117273
      have hS := hS.addF (FSl RF A117275 c117276 x117267) hs117277
      refine QL.gvalb rfl rfl rfl hb117266 (fun _ hw => R_indexAddr u62 z65 rfl rfl hA117271 (rdS hx117268).1 hq117272) rfl ?_
      refine QL.gvalb rfl rfl rfl hb117266 (fun _ hw => R_load1 g65 rfl (lat hw (hc117274 0 _ rfl))) rfl ?_
      refine QL.gvalb rfl rfl rfl hb117266 (fun _ hw => R_lenS u65 rfl) rfl ?_
      refine QL.gvalb rfl rfl rfl hb117266 (fun _ hw => R_cmp rfl rfl rfl) rfl ?_
      refine QL.val (fun _ hw => R_pickTb rfl hb117266 rfl) rfl ?_
      refine QL.val (fun _ hw => R_move rfl) rfl ?_
      rcases boolS h with ⟨hb117278, h⟩ | ⟨hb117278, h⟩
      · refine QL.gvalb rfl rfl rfl hb117278 (fun _ hw => R_fieldB o76_1 rfl) rfl ?_
        refine QL.gvalb rfl rfl rfl hb117278 (fun _ hw => R_load1 g3 rfl (lat hw (hS.cell 0 rfl rfl))) rfl ?_
        refine QL.gvalb rfl rfl rfl hb117278 (fun _ hw => R_cmp rfl rfl rfl) rfl ?_
        refine QL.val (fun _ hw => R_pickTb rfl hb117278 rfl) rfl ?_
        refine QL.val (fun _ hw => R_move rfl) rfl ?_
        rcases boolS h with ⟨hb117279, h⟩ | ⟨hb117279, h⟩
        · refine QL.gvalb rfl rfl rfl hb117279 (fun _ hw => R_fieldB o76_1 rfl) rfl ?_
          refine QL.gvalb rfl rfl rfl hb117279 (fun _ hw => R_load1 g3 rfl (lat hw (hS.cell 0 rfl rfl))) rfl ?_
          refine QL.gvalb rfl rfl rfl hb117279 (fun _ hw => R_fieldB o70_1 rfl) rfl ?_
          refine QL.gvalb rfl rfl rfl hb117279 (fun _ hw => R_load1 g68 rfl (lat hw (hS.cell 1 rfl rfl))) rfl ?_
          refine QL.gvalb rfl rfl rfl hb117279 (fun _ hw => R_move rfl) rfl ?_
          obtain ⟨x117280, hx117281, h⟩ := bindS h
          obtain ⟨ad117282, cs117283, hA117284, hq117285, hK117286, hc117287⟩ := hS.sget 1 rfl (rdS hx117281).2.2
          obtain ⟨A117288, c117289, rfl, hs117290⟩ := hK117286
          have hS := hS.addF (FSl (RI .i64) A117288 c117289 x117280) hs117290
          refine QL.gvalb rfl rfl rfl hb117279 (fun _ hw => R_indexAddr u68 z55 rfl rfl hA117284 (rdS hx117281).1 hq117285) rfl ?_
          refine QL.gvalb rfl rfl rfl hb117279 (fun _ hw => R_load1 g55 rfl (lat hw (hc117287 0 _ rfl))) rfl ?_
          refine QL.gvalb rfl rfl rfl hb117279 (fun _ hw => R_lenS u55 rfl) rfl ?_
          refine QL.gvalb rfl rfl rfl hb117279 (fun _ hw => R_cmp rfl rfl rfl) rfl ?_
          refine QL.val (fun _ hw => R_pickTb rfl hb117279 rfl) rfl ?_
          refine QL.val (fun _ hw => R_assign rfl) rfl ?_
          refine QL.last (fun w hb _ => ?_)
          have hS := hS.ext hb
          refine WQ.thenC ?_
          refine WC.ret ?_
          have hS0 := hS
          obtain rfl := Option.some.inj h
          exact ret_1 rfl rfl ⟨_, rfl, hS.bel, rfl⟩
        · refine QL.gskip rfl rfl rfl hb117279 rfl ?_
          refine QL.gskip rfl rfl rfl hb117279 rfl ?_
          refine QL.gskip rfl rfl rfl hb117279 rfl ?_
          refine QL.gskip rfl rfl rfl hb117279 rfl ?_
          refine QL.gskip rfl rfl rfl hb117279 rfl ?_
          refine QL.gskip rfl rfl rfl hb117279 rfl ?_
          refine QL.gskip rfl rfl rfl hb117279 rfl ?_
          refine QL.gskip rfl rfl rfl hb117279 rfl ?_
          refine QL.gskip rfl rfl rfl hb117279 rfl ?_
          refine QL.val (fun _ hw => R_pickFb rfl hb117279 rfl) rfl ?_
          refine QL.val (fun _ hw => R_assign rfl) rfl ?_
          refine QL.last (fun w hb _ => ?_)
          have hS := hS.ext hb
          refine WQ.thenC ?_
          refine WC.ret ?_
          have hS0 := hS
          obtain rfl := Option.some.inj h
          exact ret_1 rfl rfl ⟨_, rfl, hS.bel, rfl⟩
      · refine QL.gskip rfl rfl rfl hb117278 rfl ?_
        refine QL.gskip rfl rfl rfl hb117278 rfl ?_
        refine QL.gskip rfl rfl rfl hb117278 rfl ?_
        refine QL.val (fun _ hw => R_pickFb rfl hb117278 rfl) rfl ?_
        refine QL.val (fun _ hw => R_move rfl) rfl ?_
        refine QL.gskip rfl rfl rfl rfl rfl ?_
        refine QL.gskip rfl rfl rfl rfl rfl ?_
        refine QL.gskip rfl rfl rfl rfl rfl ?_
        refine QL.gskip rfl rfl rfl rfl rfl ?_
        refine QL.gskip rfl rfl rfl rfl rfl ?_
        refine QL.gskip rfl rfl rfl rfl rfl ?_
        refine QL.gskip rfl rfl rfl rfl rfl ?_
        refine QL.gskip rfl rfl rfl rfl rfl ?_
        refine QL.gskip rfl rfl rfl rfl rfl ?_
        refine QL.val (fun _ hw => R_pickFb rfl rfl rfl) rfl ?_
        refine QL.val (fun _ hw => R_assign rfl) rfl ?_
        refine QL.last (fun w hb _ => ?_)
        have hS := hS.ext hb
        refine WQ.thenC ?_
        refine WC.ret ?_
        have hS0 := hS
        obtain rfl := Option.some.inj h
        exact ret_1 rfl rfl ⟨_, rfl, hS.bel, rfl⟩
    · refine QL.gskip rfl rfl rfl hb117266 rfl ?_
      refine QL.gskip rfl rfl rfl hb117266 rfl ?_
      refine QL.gskip rfl rfl rfl hb117266 rfl ?_
      refine QL.gskip rfl rfl rfl hb117266 rfl ?_
      refine QL.gskip rfl rfl rfl hb117266 rfl ?_
      refine QL.gskip rfl rfl rfl hb117266 rfl ?_
      refine QL.gskip rfl rfl rfl hb117266 rfl ?_
      refine QL.gskip rfl rfl rfl hb117266 rfl ?_
      refine QL.gskip rfl rfl rfl hb117266 rfl ?_
      refine QL.val (fun _ hw => R_pickFb rfl hb117266 rfl) rfl ?_
      refine QL.val (fun _ hw => R_move rfl) rfl ?_
      refine QL.gskip rfl rfl rfl rfl rfl ?_
      refine QL.gskip rfl rfl rfl rfl rfl ?_
      refine QL.gskip rfl rfl rfl rfl rfl ?_
      refine QL.val (fun _ hw => R_pickFb rfl rfl rfl) rfl ?_
      refine QL.val (fun _ hw => R_move rfl) rfl ?_
      refine QL.gskip rfl rfl rfl rfl rfl ?_
      refine QL.gskip rfl rfl rfl rfl rfl ?_
      refine QL.gskip rfl rfl rfl rfl rfl ?_
      refine QL.gskip rfl rfl rfl rfl rfl ?_
      refine QL.gskip rfl rfl rfl rfl rfl ?_
      refine QL.gskip rfl rfl rfl rfl rfl ?_
      refine QL.gskip rfl rfl rfl rfl rfl ?_
      refine QL.gskip rfl rfl rfl rfl rfl ?_
      refine QL.gskip rfl rfl rfl rfl rfl ?_
      refine QL.val (fun _ hw => R_pickFb rfl rfl rfl) rfl ?_
      refine QL.val (fun _ hw => R_assign rfl) rfl ?_
      refine QL.last (fun w hb _ => ?_)
      have hS := hS.ext hb
      refine WQ.thenC ?_
      refine WC.ret ?_
      have hS0 := hS
      obtain rfl := Option.some.inj h
      exact ret_1 rfl rfl ⟨_, rfl, hS.bel, rfl⟩

def bins_node_left_1 (p117415 : Int) : Option Int :=
    some p117415

theorem bins_node_left_1_ok {w0 : World} {M : MSet} (hM : ∀ k, M k → k < w0.heap.size) (p117415 : Int) (r : Int) (h : bins_node_left_1 p117415 = some r) :
    Calls Tryz.prog 223 #[.int .i64 p117415] w0 (Gives w0 fun v w' => v = .int .i64 r) := by
  have hS := Sta.init hM
  unfold bins_node_left_1 at h
  refine calls_enter (n := 0) Tryz.func223 rfl [(0, .int .i64 p117415)] rfl rfl ⟨rfl, trivial⟩ ?_
  refine WC.seq ?_
  refine WC.reg ?_
  refine WL.val (R_assign rfl) rfl rfl ?_
  refine WL.nil ?_
  refine WQ.thenC ?_
  refine WC.seq ?_
  refine WC.reg ?_
  refine WL.val (R_move rfl) rfl rfl ?_
  refine WL.val (R_assign rfl) rfl rfl ?_
  refine WL.nil ?_
  refine WQ.thenC ?_
  refine WC.ret ?_
  have hS0 := hS
  obtain rfl := Option.some.inj h
  exact ret_1 rfl rfl ⟨_, rfl, hS.bel, rfl⟩

def bins_below_int_int__bins_node_left_1_l0 (k : Nat) (p117401 : List Int) (p117405 : Int) : Nat → Int → Int → Option Int
  | 0, _, _ => none
  | m + 1, y117505, y117506 =>
    if decide (y117505 < y117506) = true then ((rd p117401 (IntKind.i64.wrap (Int.tdiv (IntKind.i64.wrap (y117505 + y117506)) (2 : Int)))).bind fun x117520 =>
    (bins_node_left_1 x117520).bind fun r117528 =>
    if decide (r117528 < p117405) = true then (bins_below_int_int__bins_node_left_1_l0 k p117401 p117405 m (IntKind.i64.wrap ((IntKind.i64.wrap (Int.tdiv (IntKind.i64.wrap (y117505 + y117506)) (2 : Int))) + (1 : Int))) y117506) else (bins_below_int_int__bins_node_left_1_l0 k p117401 p117405 m y117505 (IntKind.i64.wrap (Int.tdiv (IntKind.i64.wrap (y117505 + y117506)) (2 : Int))))) else (some y117505)

def bins_below_int_int__bins_node_left_1 (k : Nat) (p117401 : List Int) (p117405 : Int) : Option Int :=
    (bins_below_int_int__bins_node_left_1_l0 k p117401 p117405 k (0 : Int) (p117401.length : Int) : Option Int).bind fun y117489 =>
    some y117489

theorem bins_below_int_int__bins_node_left_1_ok {w0 : World} {M : MSet} (hM : ∀ k, M k → k < w0.heap.size) (k : Nat) (p117401 : List Int) (p117405 : Int) {A117402 : Option Addr} {c117403 : Nat} (hs117404 : p117401.length ≤ c117403 ∧ Sl (RI .i64) M w0 A117402 p117401) (r : Int) (h : bins_below_int_int__bins_node_left_1 k p117401 p117405 = some r) :
    Calls Tryz.prog 134 #[.slice A117402 p117401.length c117403, .func (.func 223) #[] #[], .int .i64 p117405] w0 (Gives w0 fun v w' => v = .int .i64 r) := by
  have hS := Sta.init hM
  have hS := hS.arg hs117404
  unfold bins_below_int_int__bins_node_left_1 at h
  refine calls_enter (n := 0) Tryz.func134 rfl [(0, .slice A117402 p117401.length c117403), (1, .func (.func 223) #[] #[]), (2, .int .i64 p117405)] rfl rfl ⟨rfl, rfl, rfl, trivial⟩ ?_
  refine WC.seq ?_
  refine WC.reg ?_
  refine WL.val (R_assign rfl) rfl rfl ?_
  refine WL.nil ?_
  refine WQ.thenC ?_
  refine WC.seq ?_
  refine WC.reg ?_
  refine WL.val (R_move rfl) rfl rfl ?_
  refine WL.val (R_lenS u55 rfl) rfl rfl ?_
  refine WL.val (R_assign rfl) rfl rfl ?_
  refine WL.val (R_assign rfl) rfl rfl ?_
  refine WL.nil ?_
  refine WQ.thenC ?_
  obtain ⟨o117490, h117491, h117492⟩ := bindS h
  refine WC.seqM (fun env w => ∃ (y117489 : Int), y117489 = o117490 ∧ env = [(7, .int .i64 y117489)] ∧ Sta w0 M [] [] w) ?_ ?_
  · have h := h117491
    refine WC.block ?_
    have hS := hS.pick [] [0] rfl
    refine WC.loopJ (fun m env w => ∃ (y117505 : Int), ∃ (y117506 : Int), env = [(0, .slice A117402 p117401.length c117403), (1, .func (.func 223) #[] #[]), (2, .int .i64 p117405), (7, .int .i64 y117505), (8, .int .i64 y117506)] ∧ Sta w0 M [] [FSl (RI .i64) A117402 c117403 p117401] w ∧ bins_below_int_int__bins_node_left_1_l0 k p117401 p117405 m y117505 y117506 = some o117490) k ⟨(0 : Int), (p117401.length : Int), rfl, hS, h⟩ ⟨rfl, rfl, rfl, rfl, rfl, trivial⟩ (fun env w hI => ?_) (fun m env w hI => ?_)
    · obtain ⟨y117505, y117506, rfl, hS, h⟩ := hI
      rw [bins_below_int_int__bins_node_left_1_l0] at h
      cases h
    · obtain ⟨y117505, y117506, rfl, hS, h⟩ := hI
      rw [bins_below_int_int__bins_node_left_1_l0] at h
      refine WC.seq ?_
      refine WC.seq ?_
      refine WC.reg ?_
      refine WL.val (R_move rfl) rfl rfl ?_
      refine WL.val (R_move rfl) rfl rfl ?_
      refine WL.val (R_cmp rfl rfl rfl) rfl rfl ?_
      refine WL.nil ?_
      refine WQ.thenC ?_
      refine WC.cond rfl (fun hb117519 => ?_) (fun hb117519 => ?_)
      · have h := ifT hb117519 h
        refine WC.skip ?_
        refine WQ.thenC ?_
        refine WC.block ?_
        refine WC.seq ?_
        refine WC.reg ?_
        refine WL.val (R_move rfl) rfl rfl ?_
        refine WL.val (R_move rfl) rfl rfl ?_
        refine WL.val (R_ar rfl rfl rfl) rfl rfl ?_
        refine WL.val (R_quo rfl rfl (by decide)) rfl rfl ?_
        refine WL.val (R_assign rfl) rfl rfl ?_
        refine WL.nil ?_
        refine WQ.thenC ?_
        refine WC.seq ?_
        refine WC.reg ?_
        refine WL.val (R_move rfl) rfl rfl ?_
        refine WL.val (R_move rfl) rfl rfl ?_
        refine WL.val (R_move rfl) rfl rfl ?_
        obtain ⟨x117520, hx117521, h⟩ := bindS h
        obtain ⟨ad117522, cs117523, hA117524, hq117525, hK117526, hc117527⟩ := hS.sget 0 rfl (rdS hx117521).2.2
        obtain rfl := hK117526
        refine WL.val (R_indexAddr u55 z3 rfl rfl hA117524 (rdS hx117521).1 hq117525) rfl rfl ?_
        refine WL.val (R_load1 g3 rfl (hc117527 0 _ rfl)) rfl rfl ?_
        obtain ⟨r117528, hr117529, h⟩ := bindS h
        refine WL.call e223 rfl rfl hS (bins_node_left_1_ok (hS).mx_lt x117520  _ hr117529) rfl ?_
        intro v w hB hS hP
        obtain ⟨rfl⟩ := hP
        refine WL.val (R_move rfl) rfl rfl ?_
        refine WL.val (R_cmp rfl rfl rfl) rfl rfl ?_
        refine WL.nil ?_
        refine WQ.thenC ?_
        refine WC.cond rfl (fun hb117530 => ?_) (fun hb117530 => ?_)
        · have h := ifT hb117530 h
          refine WC.reg ?_
          refine WL.val (R_move rfl) rfl rfl ?_
          refine WL.val (R_ar rfl rfl rfl) rfl rfl ?_
          refine WL.val (R_assign rfl) rfl rfl ?_
          refine WL.nil ?_
          refine WQ.blockN ?_
          have hS := hS.pick [] [0] rfl
          exact WQ.toJ ⟨(IntKind.i64.wrap ((IntKind.i64.wrap (Int.tdiv (IntKind.i64.wrap (y117505 + y117506)) (2 : Int))) + (1 : Int))), y117506, rfl, hS, h⟩ ⟨rfl, rfl, rfl, rfl, rfl, trivial⟩
        · have h := ifF hb117530 h
          refine WC.reg ?_
          refine WL.val (R_move rfl) rfl rfl ?_
          refine WL.val (R_assign rfl) rfl rfl ?_
          refine WL.nil ?_
          refine WQ.blockN ?_
          have hS := hS.pick [] [0] rfl
          exact WQ.toJ ⟨y117505, (IntKind.i64.wrap (Int.tdiv (IntKind.i64.wrap (y117505 + y117506)) (2 : Int))), rfl, hS, h⟩ ⟨rfl, rfl, rfl, rfl, rfl, trivial⟩
      · have h := ifF hb117519 h
        refine WC.exit ?_
        refine WQ.thenE ?_
        refine WQ.thenE ?_
        refine WQ.blockE ?_
        have hS := hS.pick [] [] rfl
        exact WQ.toJ ⟨y117505, Option.some.inj h, rfl, hS⟩ ⟨rfl, trivial⟩
  · rintro _ w ⟨y117489, rfl, rfl, hS⟩
    have h := h117492
    try dsimp only at h
    refine WC.seq ?_
    refine WC.reg ?_
    refine WL.val (R_move rfl) rfl rfl ?_
    refine WL.val (R_assign rfl) rfl rfl ?_
    refine WL.nil ?_
    refine WQ.thenC ?_
    refine WC.ret ?_
    have hS0 := hS
    obtain rfl := Option.some.inj h
    exact ret_1 rfl rfl ⟨_, rfl, hS.bel, rfl⟩

def bins_node_left (k : Nat) (p117392 : bins_node) (p117396 : Code) : Option Bool :=
    if p117396.lost = true then (some (decide (p117392.binNode.missing = (1 : Int)))) else (if decide (p117392.binNode.kind = (2 : Int)) = true then (some (decide (p117396.bin ≤ p117392.binNode.rank))) else ((bins_below_int_int__bins_node_left_1 k p117392.binNode.cats p117396.cat).bind fun r117546 =>
    if decide (r117546 < (p117392.binNode.cats.length : Int)) = true then ((rd p117392.binNode.cats r117546).bind fun x117549 =>
    some (decide (x117549 = p117396.cat))) else (some false)))

theorem bins_node_left_ok {w0 : World} {M : MSet} (hM : ∀ k, M k → k < w0.heap.size) (k : Nat) (p117392 : bins_node) (p117396 : Code) {A117393 : Option Addr} {c117394 : Nat} (hs117395 : p117392.binNode.cats.length ≤ c117394 ∧ Sl (RI .i64) M w0 A117393 p117392.binNode.cats) (r : Bool) (h : bins_node_left k p117392 p117396 = some r) :
    Calls Tryz.prog 188 #[.agg #[.int .u8 p117392.binNode.kind, .int .i64 p117392.binNode.value, .int .i64 p117392.binNode.feature, .int .i64 p117392.binNode.rank, .slice A117393 p117392.binNode.cats.length c117394, .int .u8 p117392.binNode.missing, .int .i64 p117392.binNode.left, .int .i64 p117392.binNode.right], .agg #[.int .i64 p117396.bin, .int .i64 p117396.cat, .bool p117396.lost]] w0 (Gives w0 fun v w' => v = .bool r) := by
  have hS := Sta.init hM
  have hS := hS.arg hs117395
  unfold bins_node_left at h
  refine calls_enter (n := 0) Tryz.func188 rfl [(0, .agg #[.int .u8 p117392.binNode.kind, .int .i64 p117392.binNode.value, .int .i64 p117392.binNode.feature, .int .i64 p117392.binNode.rank, .slice A117393 p117392.binNode.cats.length c117394, .int .u8 p117392.binNode.missing, .int .i64 p117392.binNode.left, .int .i64 p117392.binNode.right]), (1, .agg #[.int .i64 p117396.bin, .int .i64 p117396.cat, .bool p117396.lost])] rfl rfl ⟨rfl, rfl, trivial⟩ ?_
  refine WC.seq ?_
  refine WC.reg ?_
  refine WL.box [.int .u8 p117392.binNode.kind, .int .i64 p117392.binNode.value, .int .i64 p117392.binNode.feature, .int .i64 p117392.binNode.rank, .slice A117393 p117392.binNode.cats.length c117394, .int .u8 p117392.binNode.missing, .int .i64 p117392.binNode.left, .int .i64 p117392.binNode.right] rfl rfl hS rfl ?_
  intro b117542 w hS
  refine WL.box [.int .i64 p117396.bin, .int .i64 p117396.cat, .bool p117396.lost] rfl rfl hS rfl ?_
  intro b117543 w hS
  refine WL.val (R_assign rfl) rfl rfl ?_
  refine WL.nil ?_
  refine WQ.thenC ?_
  refine WC.seq ?_
  refine WC.block ?_
  refine WC.seq ?_
  refine WC.reg ?_
  refine WL.val (R_fieldB o76_2 rfl) rfl rfl ?_
  refine WL.val (R_load1 g4 rfl (hS.cell 0 rfl rfl)) rfl rfl ?_
  refine WL.val (R_assign rfl) rfl rfl ?_
  refine WL.nil ?_
  refine WQ.thenC ?_
  refine WC.cond rfl (fun hb117544 => ?_) (fun hb117544 => ?_)
  · have h := ifT hb117544 h
    refine WC.seq ?_
    refine WC.reg ?_
    refine WL.val (R_fieldB o292_0 rfl) rfl rfl ?_
    refine WL.val (R_fieldB o214_5 rfl) rfl rfl ?_
    refine WL.val (R_load1 g56 rfl (hS.cell 1 rfl rfl)) rfl rfl ?_
    refine WL.val (R_cmp rfl rfl rfl) rfl rfl ?_
    refine WL.val (R_assign rfl) rfl rfl ?_
    refine WL.nil ?_
    refine WQ.thenC ?_
    refine WC.ret ?_
    refine WQ.blockR ?_
    refine WQ.thenR ?_
    have hS0 := hS
    obtain rfl := Option.some.inj h
    exact ret_1 rfl rfl ⟨_, rfl, hS.bel, rfl⟩
  · have h := ifF hb117544 h
    refine WC.seq ?_
    refine WC.reg ?_
    refine WL.val (R_fieldB o292_0 rfl) rfl rfl ?_
    refine WL.val (R_fieldB o214_0 rfl) rfl rfl ?_
    refine WL.val (R_load1 g53 rfl (hS.cell 1 rfl rfl)) rfl rfl ?_
    refine WL.val (R_cmp rfl rfl rfl) rfl rfl ?_
    refine WL.val (R_assign rfl) rfl rfl ?_
    refine WL.nil ?_
    refine WQ.thenC ?_
    refine WC.cond rfl (fun hb117545 => ?_) (fun hb117545 => ?_)
    · have h := ifT hb117545 h
      refine WC.seq ?_
      refine WC.reg ?_
      refine WL.val (R_fieldB o76_0 rfl) rfl rfl ?_
      refine WL.val (R_load1 g3 rfl (hS.cell 0 rfl rfl)) rfl rfl ?_
      refine WL.val (R_fieldB o292_0 rfl) rfl rfl ?_
      refine WL.val (R_fieldB o214_3 rfl) rfl rfl ?_
      refine WL.val (R_load1 g3 rfl (hS.cell 1 rfl rfl)) rfl rfl ?_
      refine WL.val (R_cmp rfl rfl rfl) rfl rfl ?_
      refine WL.val (R_assign rfl) rfl rfl ?_
      refine WL.nil ?_
      refine WQ.thenC ?_
      refine WC.ret ?_
      refine WQ.blockR ?_
      refine WQ.thenR ?_
      have hS0 := hS
      obtain rfl := Option.some.inj h
      exact ret_1 rfl rfl ⟨_, rfl, hS.bel, rfl⟩
    · have h := ifF hb117545 h
      refine WC.skip ?_
      refine WQ.blockN ?_
      refine WQ.thenC ?_
      refine WC.seq ?_
      refine WC.reg ?_
      refine WL.val (R_fieldB o292_0 rfl) rfl rfl ?_
      refine WL.val (R_fieldB o214_4 rfl) rfl rfl ?_
      refine WL.val (R_load1 g55 rfl (hS.cell 1 rfl rfl)) rfl rfl ?_
      refine WL.val (R_fieldB o76_1 rfl) rfl rfl ?_
      refine WL.val (R_load1 g3 rfl (hS.cell 0 rfl rfl)) rfl rfl ?_
      obtain ⟨r117546, hr117547, h⟩ := bindS h
      refine WL.call e134 rfl rfl hS (bins_below_int_int__bins_node_left_1_ok (hS).mx_lt k p117392.binNode.cats p117396.cat (hS.sl 0 rfl) _ hr117547) rfl ?_
      intro v w hB hS hP
      obtain ⟨rfl⟩ := hP
      refine WL.val (R_assign rfl) rfl rfl ?_
      refine WL.nil ?_
      refine WQ.thenC ?_
      refine WC.seq ?_
      refine WC.draw fol (by kernel_rfl) hS ?_
      refine QL.val (fun _ hw => R_move rfl) rfl ?_
      refine QL.val (fun _ hw => R_fieldB o292_0 rfl) rfl ?_
      refine QL.val (fun _ hw => R_fieldB o214_4 rfl) rfl ?_
      refine QL.val (fun _ hw => R_load1 g55 rfl (lat hw (hS.cell 1 rfl rfl))) rfl ?_
      refine QL.val (fun _ hw => R_lenS u55 rfl) rfl ?_
      refine QL.val (fun _ hw => R_cmp rfl rfl rfl) rfl ?_
      refine QL.val (fun _ hw => R_move rfl) rfl ?_
      rcases boolS h with ⟨hb117548, h⟩ | ⟨hb117548, h⟩
      · refine QL.gvalb rfl rfl rfl hb117548 (fun _ hw => R_fieldB o292_0 rfl) rfl ?_
        refine QL.gvalb rfl rfl rfl hb117548 (fun _ hw => R_fieldB o214_4 rfl) rfl ?_
        refine QL.gvalb rfl rfl rfl hb117548 (fun _ hw => R_load1 g55 rfl (lat hw (hS.cell 1 rfl rfl))) rfl ?_
        refine QL.gvalb rfl rfl rfl hb117548 (fun _ hw => R_move rfl) rfl ?_
        obtain ⟨x117549, hx117550, h⟩ := bindS h
        obtain ⟨ad117551, cs117552, hA117553, hq117554, hK117555, hc117556⟩ := hS.sget 0 rfl (rdS hx117550).2.2
        obtain rfl := hK117555
        refine QL.gvalb rfl rfl rfl hb117548 (fun _ hw => R_indexAddr u55 z3 rfl rfl hA117553 (rdS hx117550).1 hq117554) rfl ?_
        refine QL.gvalb rfl rfl rfl hb117548 (fun _ hw => R_load1 g3 rfl (lat hw (hc117556 0 _ rfl))) rfl ?_
        refine QL.gvalb rfl rfl rfl hb117548 (fun _ hw => R_fieldB o76_1 rfl) rfl ?_
        refine QL.gvalb rfl rfl rfl hb117548 (fun _ hw => R_load1 g3 rfl (lat hw (hS.cell 0 rfl rfl))) rfl ?_
        refine QL.gvalb rfl rfl rfl hb117548 (fun _ hw => R_cmp rfl rfl rfl) rfl ?_
        refine QL.val (fun _ hw => R_pickTb rfl hb117548 rfl) rfl ?_
        refine QL.val (fun _ hw => R_assign rfl) rfl ?_
        refine QL.last (fun w hb _ => ?_)
        have hS := hS.ext hb
        refine WQ.thenC ?_
        refine WC.ret ?_
        have hS0 := hS
        obtain rfl := Option.some.inj h
        exact ret_1 rfl rfl ⟨_, rfl, hS.bel, rfl⟩
      · refine QL.gskip rfl rfl rfl hb117548 rfl ?_
        refine QL.gskip rfl rfl rfl hb117548 rfl ?_
        refine QL.gskip rfl rfl rfl hb117548 rfl ?_
        refine QL.gskip rfl rfl rfl hb117548 rfl ?_
        refine QL.gskip rfl rfl rfl hb117548 rfl ?_
        refine QL.gskip rfl rfl rfl hb117548 rfl ?_
        refine QL.gskip rfl rfl rfl hb117548 rfl ?_
        refine QL.gskip rfl rfl rfl hb117548 rfl ?_
        refine QL.gskip rfl rfl rfl hb117548 rfl ?_
        refine QL.val (fun _ hw => R_pickFb rfl hb117548 rfl) rfl ?_
        refine QL.val (fun _ hw => R_assign rfl) rfl ?_
        refine QL.last (fun w hb _ => ?_)
        have hS := hS.ext hb
        refine WQ.thenC ?_
        refine WC.ret ?_
        have hS0 := hS
        obtain rfl := Option.some.inj h
        exact ret_1 rfl rfl ⟨_, rfl, hS.bel, rfl⟩

def bins_Score_l0 (k : Nat) (p117196 : List Code) (p117183 : Binned) : Nat → Int → Option (Fl ((List Int) × Int) Unit)
  | 0, _ => none
  | m + 1, y119846 =>
    if decide (y119846 < (p117196.length : Int)) = true then ((rd p117196 y119846).bind fun x119861 =>
    (bins_fits p117183.bins y119846 x119861).bind fun r119870 =>
    if (!r119870) = true then ((some (([] : List Int), (200 : Int))).map Fl.ret) else (bins_Score_l0 k p117196 p117183 m (IntKind.i64.wrap (y119846 + (1 : Int))))) else (some (.go ()))

def bins_Score_l2 (k : Nat) (x122444 : BinTree) (p117196 : List Code) : Nat → Int → Option Int
  | 0, _ => none
  | m + 1, y122638 =>
    (rd x122444.nodes y122638).bind fun x122698 =>
    if decide (x122698.kind ≠ (1 : Int)) = true then ((rd p117196 x122698.feature).bind fun x122728 =>
    (bins_node_left k (⟨x122698⟩ : bins_node) x122728).bind fun r122736 =>
    if r122736 = true then (bins_Score_l2 k x122444 p117196 m x122698.left) else (bins_Score_l2 k x122444 p117196 m x122698.right)) else (some y122638)

def bins_Score_l1 (k : Nat) (p117183 : Binned) (p117196 : List Code) : Nat → (List Int) → Int → Option (List Int)
  | 0, _, _ => none
  | m + 1, y121589, y121590 =>
    if decide (y121590 < (p117183.trees.length : Int)) = true then (((rd p117183.trees y121590).bind fun x122444 =>
    (bins_Score_l2 k x122444 p117196 k (0 : Int) : Option Int).bind fun y122575 =>
    (rd y121589 x122444.output).bind fun x122757 =>
    (rd x122444.nodes y122575).bind fun x122765 =>
    some (y121589.set x122444.output.toNat (IntKind.i64.wrap (x122757 + x122765.value))) : Option (List Int)).bind fun y122440 =>
    bins_Score_l1 k p117183 p117196 m y122440 (IntKind.i64.wrap (y121590 + (1 : Int)))) else (some y121589)

def bins_Score (k : Nat) (p117183 : Binned) (p117196 : List Code) : Option ((List Int) × Int) :=
    (bins_Back k p117183).bind fun ⟨r119788, r119789⟩ =>
    if decide (r119789 ≠ (0 : Int)) = true then (some (([] : List Int), r119789)) else (if decide ((p117196.length : Int) ≠ (p117183.bins.cuts.length : Int)) = true then (some (([] : List Int), (72 : Int))) else ((bins_Score_l0 k p117196 p117183 k (0 : Int) : Option (Fl ((List Int) × Int) Unit)).bind fun o => match o with
    | .ret r => some r
    | .go _ =>
    (if (([] : List Int).length + p117183.base.length) * 8 ≤ 140737488355328 then ((bins_Score_l1 k p117183 p117196 k (([] : List Int) ++ p117183.base) (0 : Int) : Option (List Int)).bind fun y121016 =>
    some (y121016, (0 : Int))) else none)))

theorem bins_Score_ok {w0 : World} {M : MSet} (hM : ∀ k, M k → k < w0.heap.size) (k : Nat) (p117183 : Binned) (p117196 : List Code) {A117184 : Option Addr} {c117185 : Nat} (hs117186 : p117183.bins.cuts.length ≤ c117185 ∧ Sl (RSl RF) M w0 A117184 p117183.bins.cuts) {A117187 : Option Addr} {c117188 : Nat} (hs117189 : p117183.bins.cats.length ≤ c117188 ∧ Sl (RSl (RI .i64)) M w0 A117187 p117183.bins.cats) {A117190 : Option Addr} {c117191 : Nat} (hs117192 : p117183.base.length ≤ c117191 ∧ Sl (RI .i64) M w0 A117190 p117183.base) {A117193 : Option Addr} {c117194 : Nat} (hs117195 : p117183.trees.length ≤ c117194 ∧ Sl RBinTree M w0 A117193 p117183.trees) {A117197 : Option Addr} {c117198 : Nat} (hs117199 : p117196.length ≤ c117198 ∧ Sl RCode M w0 A117197 p117196) (r1 : List Int) (r2 : Int) (h : bins_Score k p117183 p117196 = some (r1, r2)) :
    Calls Tryz.prog 137 #[.agg #[.slice A117184 p117183.bins.cuts.length c117185, .slice A117187 p117183.bins.cats.length c117188, .int .i64 p117183.outputs, .slice A117190 p117183.base.length c117191, .slice A117193 p117183.trees.length c117194], .slice A117197 p117196.length c117198] w0 (Gives w0 fun v w' => ∃ (Ao : Option Addr), ∃ (no co : Nat), v = .tuple #[.slice Ao no co, .int .i64 r2] ∧ (Row (RI .i64) 2 (.slice Ao no co) r1).ok w0.heap.size (Mx M [Row (RI .i64) 2 (.slice Ao no co) r1]) w') := by
  have hS := Sta.init hM
  have hS := hS.arg hs117186
  have hS := hS.arg hs117189
  have hS := hS.arg hs117192
  have hS := hS.arg hs117195
  have hS := hS.arg hs117199
  unfold bins_Score at h
  refine calls_enter (n := 0) Tryz.func137 rfl [(0, .agg #[.slice A117184 p117183.bins.cuts.length c117185, .slice A117187 p117183.bins.cats.length c117188, .int .i64 p117183.outputs, .slice A117190 p117183.base.length c117191, .slice A117193 p117183.trees.length c117194]), (1, .slice A117197 p117196.length c117198)] rfl rfl ⟨rfl, rfl, trivial⟩ ?_
  refine WC.seq ?_
  refine WC.reg ?_
  refine WL.box [.slice A117184 p117183.bins.cuts.length c117185, .slice A117187 p117183.bins.cats.length c117188, .int .i64 p117183.outputs, .slice A117190 p117183.base.length c117191, .slice A117193 p117183.trees.length c117194] rfl rfl hS rfl ?_
  intro b119787 w hS
  refine WL.val (R_assign rfl) rfl rfl ?_
  refine WL.val (R_assign rfl) rfl rfl ?_
  refine WL.nil ?_
  refine WQ.thenC ?_
  refine WC.seq ?_
  refine WC.seq ?_
  refine WC.reg ?_
  refine WL.val (R_loadA g147 rfl rfl (hS.cells 0 (o := 0) (m := 5) rfl rfl)) rfl rfl ?_
  obtain ⟨⟨r119788, r119789⟩, hr119790, h⟩ := bindS h
  try dsimp only at h
  refine WL.call e136 rfl rfl hS (bins_Back_ok (hS).mx_lt k p117183 (hS.sl 4 rfl) (hS.sl 3 rfl) (hS.sl 2 rfl) (hS.sl 1 rfl) _ _ hr119790) rfl ?_
  intro v w hB hS hP
  obtain ⟨A119791, c119792, A119794, c119795, A119797, c119798, rfl, ho119793, ho119796, ho119799⟩ := hP
  have hS := hS.addF (FSl RStr A119791 c119792 r119788.features) ho119793
  have hS := hS.addF (FSl (RI .i64) A119794 c119795 r119788.base) ho119796
  have hS := hS.addF (FSl RTree A119797 c119798 r119788.trees) ho119799
  refine WL.val (R_move rfl) rfl rfl ?_
  refine WL.val (R_extract rfl rfl) rfl rfl ?_
  refine WL.val (R_extract rfl rfl) rfl rfl ?_
  refine WL.alloc _ z26 rfl hS rfl ?_
  intro b119800 w hS
  refine WL.storeB 0 [.string r119788.name, .slice A119791 r119788.features.length c119792, .int .i64 r119788.outputs, .slice A119794 r119788.base.length c119795, .slice A119797 r119788.trees.length c119798] g26 hS rfl rfl rfl rfl rfl rfl rfl [.string r119788.name, .slice A119791 r119788.features.length c119792, .int .i64 r119788.outputs, .slice A119794 r119788.base.length c119795, .slice A119797 r119788.trees.length c119798] rfl ?_
  intro w hS
  refine WL.val (R_assign rfl) rfl rfl ?_
  refine WL.nil ?_
  refine WQ.thenC ?_
  refine WC.seq ?_
  refine WC.reg ?_
  refine WL.val (R_move rfl) rfl rfl ?_
  refine WL.val (R_cmp rfl rfl rfl) rfl rfl ?_
  refine WL.nil ?_
  refine WQ.thenC ?_
  refine WC.cond rfl (fun hb119801 => ?_) (fun hb119801 => ?_)
  · have h := ifT hb119801 h
    refine WC.seq ?_
    refine WC.reg ?_
    refine WL.val (R_move rfl) rfl rfl ?_
    refine WL.val (R_assign rfl) rfl rfl ?_
    refine WL.val (R_assign rfl) rfl rfl ?_
    refine WL.nil ?_
    refine WQ.thenC ?_
    refine WC.ret ?_
    refine WQ.thenR ?_
    have hS := hS.nilRow (RI .i64) 2
    have hS0 := hS
    have hS := hS.pick [0] [0, 1, 2, 3, 4, 5, 6, 7] rfl
    have h := Option.some.inj h
    obtain ⟨rfl, rfl⟩ := Prod.mk.inj h
    exact ret_2 rfl rfl rfl ⟨_, rfl, hS.bel, ⟨none, 0, 0, rfl, hS.res 0 rfl⟩⟩
  · have h := ifF hb119801 h
    refine WC.skip ?_
    refine WQ.thenC ?_
    refine WC.seq ?_
    refine WC.seq ?_
    refine WC.reg ?_
    refine WL.val (R_move rfl) rfl rfl ?_
    refine WL.val (R_lenS u72 rfl) rfl rfl ?_
    refine WL.val (R_fieldB o147_0 rfl) rfl rfl ?_
    refine WL.val (R_fieldB o70_0 rfl) rfl rfl ?_
    refine WL.val (R_load1 g62 rfl (hS.cell 1 rfl rfl)) rfl rfl ?_
    refine WL.val (R_lenS u62 rfl) rfl rfl ?_
    refine WL.val (R_cmp rfl rfl rfl) rfl rfl ?_
    refine WL.nil ?_
    refine WQ.thenC ?_
    refine WC.cond rfl (fun hb119802 => ?_) (fun hb119802 => ?_)
    · have h := ifT hb119802 h
      refine WC.seq ?_
      refine WC.reg ?_
      refine WL.val (R_assign rfl) rfl rfl ?_
      refine WL.val (R_assign rfl) rfl rfl ?_
      refine WL.nil ?_
      refine WQ.thenC ?_
      refine WC.ret ?_
      refine WQ.thenR ?_
      have hS := hS.nilRow (RI .i64) 2
      have hS0 := hS
      have hS := hS.pick [0] [0, 1, 2, 3, 4, 5, 6, 7] rfl
      have h := Option.some.inj h
      obtain ⟨rfl, rfl⟩ := Prod.mk.inj h
      exact ret_2 rfl rfl rfl ⟨_, rfl, hS.bel, ⟨none, 0, 0, rfl, hS.res 0 rfl⟩⟩
    · have h := ifF hb119802 h
      refine WC.skip ?_
      refine WQ.thenC ?_
      obtain ⟨o119830, h119831, h119832⟩ := bindS h
      refine WC.seqM (fun env w => Fl.go () = o119830 ∧ env = [(1, .slice A117197 p117196.length c117198), (2, .pointer (some ⟨b119787, 0, none⟩))] ∧ Sta w0 M [Blk b119787 [.slice A117184 p117183.bins.cuts.length c117185, .slice A117187 p117183.bins.cats.length c117188, .int .i64 p117183.outputs, .slice A117190 p117183.base.length c117191, .slice A117193 p117183.trees.length c117194] 147] [FSl RCode A117197 c117198 p117196, FSl (RSl RF) A117184 c117185 p117183.bins.cuts, FSl (RSl (RI .i64)) A117187 c117188 p117183.bins.cats, FSl (RI .i64) A117190 c117191 p117183.base, FSl RBinTree A117193 c117194 p117183.trees] w) ?_ ?_
      · have h := h119831
        refine WC.seq ?_
        refine WC.reg ?_
        refine WL.val (R_move rfl) rfl rfl ?_
        refine WL.val (R_lenS u72 rfl) rfl rfl ?_
        refine WL.val (R_move rfl) rfl rfl ?_
        refine WL.nil ?_
        refine WQ.thenC ?_
        refine WC.block ?_
        have hS := hS.pick [1] [3, 7, 6, 5, 4] rfl
        refine WC.loopJ (fun m env w => ∃ (y119846 : Int), env = [(1, .slice A117197 p117196.length c117198), (2, .pointer (some ⟨b119787, 0, none⟩)), (29, .slice A117197 p117196.length c117198), (30, .int .i64 (p117196.length : Int)), (31, .int .i64 y119846)] ∧ Sta w0 M [Blk b119787 [.slice A117184 p117183.bins.cuts.length c117185, .slice A117187 p117183.bins.cats.length c117188, .int .i64 p117183.outputs, .slice A117190 p117183.base.length c117191, .slice A117193 p117183.trees.length c117194] 147] [FSl RCode A117197 c117198 p117196, FSl (RSl RF) A117184 c117185 p117183.bins.cuts, FSl (RSl (RI .i64)) A117187 c117188 p117183.bins.cats, FSl (RI .i64) A117190 c117191 p117183.base, FSl RBinTree A117193 c117194 p117183.trees] w ∧ bins_Score_l0 k p117196 p117183 m y119846 = some o119830) k ⟨(0 : Int), rfl, hS, h⟩ ⟨rfl, rfl, rfl, rfl, rfl, trivial⟩ (fun env w hI => ?_) (fun m env w hI => ?_)
        · obtain ⟨y119846, rfl, hS, h⟩ := hI
          rw [bins_Score_l0] at h
          cases h
        · obtain ⟨y119846, rfl, hS, h⟩ := hI
          rw [bins_Score_l0] at h
          refine WC.seq ?_
          refine WC.reg ?_
          refine WL.val (R_cmp rfl rfl rfl) rfl rfl ?_
          refine WL.nil ?_
          refine WQ.thenC ?_
          refine WC.seq ?_
          refine WC.cond rfl (fun hb119860 => ?_) (fun hb119860 => ?_)
          · have h := ifT hb119860 h
            refine WC.skip ?_
            refine WQ.thenC ?_
            refine WC.seq ?_
            refine WC.block ?_
            refine WC.seq ?_
            refine WC.reg ?_
            refine WL.val (R_move rfl) rfl rfl ?_
            obtain ⟨x119861, hx119862, h⟩ := bindS h
            obtain ⟨ad119863, cs119864, hA119865, hq119866, hK119867, hc119868⟩ := hS.sget 0 rfl (rdS hx119862).2.2
            obtain rfl := hK119867
            refine WL.val (R_indexAddr u72 z76 rfl rfl hA119865 (rdS hx119862).1 hq119866) rfl rfl ?_
            refine WL.val (R_loadA g76 rfl rfl hc119868) rfl rfl ?_
            refine WL.alloc _ z76 rfl hS rfl ?_
            intro b119869 w hS
            refine WL.val (R_assign rfl) rfl rfl ?_
            refine WL.storeB 0 [.int .i64 x119861.bin, .int .i64 x119861.cat, .bool x119861.lost] g76 hS rfl rfl rfl rfl rfl rfl rfl [.int .i64 x119861.bin, .int .i64 x119861.cat, .bool x119861.lost] rfl ?_
            intro w hS
            refine WL.nil ?_
            refine WQ.thenC ?_
            refine WC.seq ?_
            refine WC.reg ?_
            refine WL.val (R_fieldB o147_0 rfl) rfl rfl ?_
            refine WL.val (R_loadA g70 rfl rfl (hS.cells 1 (o := 0) (m := 2) rfl rfl)) rfl rfl ?_
            refine WL.val (R_move rfl) rfl rfl ?_
            refine WL.val (R_loadA g76 rfl rfl (hS.cells 0 (o := 0) (m := 3) rfl rfl)) rfl rfl ?_
            obtain ⟨r119870, hr119871, h⟩ := bindS h
            refine WL.call e187 rfl rfl hS (bins_fits_ok (hS).mx_lt p117183.bins y119846 x119861 (hS.sl 1 rfl) (hS.sl 2 rfl) _ hr119871) rfl ?_
            intro v w hB hS hP
            obtain ⟨rfl⟩ := hP
            refine WL.val (R_not rfl) rfl rfl ?_
            refine WL.nil ?_
            refine WQ.thenC ?_
            refine WC.cond rfl (fun hb119872 => ?_) (fun hb119872 => ?_)
            · have h := ifT hb119872 h
              refine WC.seq ?_
              refine WC.reg ?_
              refine WL.val (R_assign rfl) rfl rfl ?_
              refine WL.val (R_assign rfl) rfl rfl ?_
              refine WL.nil ?_
              refine WQ.thenC ?_
              refine WC.ret ?_
              refine WQ.blockR ?_
              refine WQ.thenR ?_
              refine WQ.thenR ?_
              refine WQ.blockR ?_
              refine WQ.thenR ?_
              obtain ⟨_, hr, rfl⟩ := mapS h
              have h := hr.trans h119832
              have hS := hS.nilRow (RI .i64) 2
              have hS0 := hS
              have hS := hS.pick [0] [0, 1, 2, 3, 4] rfl
              have h := Option.some.inj h
              obtain ⟨rfl, rfl⟩ := Prod.mk.inj h
              exact ret_2 rfl rfl rfl ⟨_, rfl, hS.bel, ⟨none, 0, 0, rfl, hS.res 0 rfl⟩⟩
            · have h := ifF hb119872 h
              refine WC.skip ?_
              refine WQ.blockN ?_
              refine WQ.thenC ?_
              refine WC.reg ?_
              refine WL.val (R_ar rfl rfl rfl) rfl rfl ?_
              refine WL.val (R_move rfl) rfl rfl ?_
              refine WL.nil ?_
              have hS := hS.pick [1] [0, 1, 2, 3, 4] rfl
              exact WQ.toJ ⟨(IntKind.i64.wrap (y119846 + (1 : Int))), rfl, hS, h⟩ ⟨rfl, rfl, rfl, rfl, rfl, trivial⟩
          · have h := ifF hb119860 h
            refine WC.exit ?_
            refine WQ.thenE ?_
            refine WQ.thenE ?_
            refine WQ.blockE ?_
            have hS := hS.pick [0] [0, 1, 2, 3, 4] rfl
            exact WQ.toJ ⟨Option.some.inj h, rfl, hS⟩ ⟨rfl, rfl, trivial⟩
      · rintro _ w ⟨rfl, rfl, hS⟩
        have h := h119832
        try dsimp only at h
        refine WC.seq ?_
        refine WC.reg ?_
        refine WL.val (R_fieldB o147_2 rfl) rfl rfl ?_
        refine WL.val (R_load1 g23 rfl (hS.cell 0 rfl rfl)) rfl rfl ?_
        have hS := hS.nilRow (RI .i64) 2
        obtain ⟨hg119873, h⟩ := grdS h
        refine WL.append (R := (RI .i64)) (zs := p117183.base) 0 u23 z2 rfl rfl rfl hS rfl rfl rfl rfl (Sl.src (hS.sl 3 rfl).2) hg119873 rfl rfl ?_
        intro A119874 c119875 w hS
        refine WL.val (R_assign rfl) rfl rfl ?_
        refine WL.nil ?_
        refine WQ.thenC ?_
        obtain ⟨o121017, h121018, h121019⟩ := bindS h
        refine WC.seqM (fun env w => ∃ (y121016 : List Int), ∃ (A121013 : Option Addr), ∃ (n121014 : Nat), ∃ (c121015 : Nat), y121016 = o121017 ∧ env = [(10, .slice A121013 n121014 c121015)] ∧ Sta w0 M [Row (RI .i64) 2 (.slice A121013 n121014 c121015) y121016] [] w) ?_ ?_
        · have h := h121018
          refine WC.seq ?_
          refine WC.reg ?_
          refine WL.val (R_fieldB o147_3 rfl) rfl rfl ?_
          refine WL.val (R_load1 g145 rfl (hS.cell 1 rfl rfl)) rfl rfl ?_
          refine WL.val (R_lenS u145 rfl) rfl rfl ?_
          refine WL.val (R_move rfl) rfl rfl ?_
          refine WL.nil ?_
          refine WQ.thenC ?_
          refine WC.block ?_
          have hS := hS.pick [0] [0, 4] rfl
          refine WC.loopJ (fun m env w => ∃ (y121589 : List Int), ∃ (y121590 : Int), ∃ (A121586 : Option Addr), ∃ (n121587 : Nat), ∃ (c121588 : Nat), env = [(1, .slice A117197 p117196.length c117198), (10, .slice A121586 n121587 c121588), (47, .slice A117193 p117183.trees.length c117194), (48, .int .i64 (p117183.trees.length : Int)), (49, .int .i64 y121590)] ∧ Sta w0 M [Row (RI .i64) 2 (.slice A121586 n121587 c121588) y121589] [FSl RCode A117197 c117198 p117196, FSl RBinTree A117193 c117194 p117183.trees] w ∧ bins_Score_l1 k p117183 p117196 m y121589 y121590 = some o121017) k ⟨(([] : List Int) ++ p117183.base), (0 : Int), A119874, (([] : List Int) ++ p117183.base).length, c119875, rfl, hS, h⟩ ⟨rfl, rfl, rfl, rfl, rfl, trivial⟩ (fun env w hI => ?_) (fun m env w hI => ?_)
          · obtain ⟨y121589, y121590, A121586, n121587, c121588, rfl, hS, h⟩ := hI
            rw [bins_Score_l1] at h
            cases h
          · obtain ⟨y121589, y121590, A121586, n121587, c121588, rfl, hS, h⟩ := hI
            rw [bins_Score_l1] at h
            obtain rfl := Row.len (hS.res 0 rfl)
            refine WC.seq ?_
            refine WC.reg ?_
            refine WL.val (R_cmp rfl rfl rfl) rfl rfl ?_
            refine WL.nil ?_
            refine WQ.thenC ?_
            refine WC.seq ?_
            refine WC.cond rfl (fun hb122157 => ?_) (fun hb122157 => ?_)
            · have h := ifT hb122157 h
              refine WC.skip ?_
              refine WQ.thenC ?_
              obtain ⟨o122441, h122442, h122443⟩ := bindS h
              refine WC.seqM (fun env w => ∃ (y122440 : List Int), ∃ (A122437 : Option Addr), ∃ (n122438 : Nat), ∃ (c122439 : Nat), y122440 = o122441 ∧ env = [(1, .slice A117197 p117196.length c117198), (10, .slice A122437 n122438 c122439), (47, .slice A117193 p117183.trees.length c117194), (48, .int .i64 (p117183.trees.length : Int)), (49, .int .i64 y121590)] ∧ Sta w0 M [Row (RI .i64) 2 (.slice A122437 n122438 c122439) y122440] [FSl RCode A117197 c117198 p117196, FSl RBinTree A117193 c117194 p117183.trees] w) ?_ ?_
              · have h := h122442
                refine WC.block ?_
                refine WC.seq ?_
                refine WC.reg ?_
                obtain ⟨x122444, hx122445, h⟩ := bindS h
                obtain ⟨ad122446, cs122447, hA122448, hq122449, hK122450, hc122451⟩ := hS.sget 1 rfl (rdS hx122445).2.2
                obtain ⟨A122452, c122453, rfl, hs122454⟩ := hK122450
                have hS := hS.addF (FSl RBinNode A122452 c122453 x122444.nodes) hs122454
                refine WL.val (R_indexAddr u145 z212 rfl rfl hA122448 (rdS hx122445).1 hq122449) rfl rfl ?_
                refine WL.val (R_loadA g212 rfl rfl hc122451) rfl rfl ?_
                refine WL.alloc _ z212 rfl hS rfl ?_
                intro b122455 w hS
                refine WL.storeB 0 [.int .i64 x122444.output, .slice A122452 x122444.nodes.length c122453] g212 hS rfl rfl rfl rfl rfl rfl rfl [.int .i64 x122444.output, .slice A122452 x122444.nodes.length c122453] rfl ?_
                intro w hS
                refine WL.nil ?_
                refine WQ.thenC ?_
                refine WC.seq ?_
                refine WC.reg ?_
                refine WL.val (R_assign rfl) rfl rfl ?_
                refine WL.nil ?_
                refine WQ.thenC ?_
                obtain ⟨o122576, h122577, h122578⟩ := bindS h
                refine WC.seqM (fun env w => ∃ (y122575 : Int), y122575 = o122576 ∧ env = [(1, .slice A117197 p117196.length c117198), (10, .slice A121586 y121589.length c121588), (12, .pointer (some ⟨b122455, 0, none⟩)), (13, .int .i64 y122575), (47, .slice A117193 p117183.trees.length c117194), (48, .int .i64 (p117183.trees.length : Int)), (49, .int .i64 y121590)] ∧ Sta w0 M [Row (RI .i64) 2 (.slice A121586 y121589.length c121588) y121589, Blk b122455 [.int .i64 x122444.output, .slice A122452 x122444.nodes.length c122453] 212] [FSl RCode A117197 c117198 p117196, FSl RBinTree A117193 c117194 p117183.trees, FSl RBinNode A122452 c122453 x122444.nodes] w) ?_ ?_
                · have h := h122577
                  refine WC.block ?_
                  have hS := hS.pick [1, 0] [1, 2, 0] rfl
                  refine WC.loopJ (fun m env w => ∃ (y122638 : Int), env = [(1, .slice A117197 p117196.length c117198), (10, .slice A121586 y121589.length c121588), (12, .pointer (some ⟨b122455, 0, none⟩)), (13, .int .i64 y122638), (47, .slice A117193 p117183.trees.length c117194), (48, .int .i64 (p117183.trees.length : Int)), (49, .int .i64 y121590)] ∧ Sta w0 M [Row (RI .i64) 2 (.slice A121586 y121589.length c121588) y121589, Blk b122455 [.int .i64 x122444.output, .slice A122452 x122444.nodes.length c122453] 212] [FSl RCode A117197 c117198 p117196, FSl RBinTree A117193 c117194 p117183.trees, FSl RBinNode A122452 c122453 x122444.nodes] w ∧ bins_Score_l2 k x122444 p117196 m y122638 = some o122576) k ⟨(0 : Int), rfl, hS, h⟩ ⟨rfl, rfl, rfl, rfl, rfl, rfl, rfl, trivial⟩ (fun env w hI => ?_) (fun m env w hI => ?_)
                  · obtain ⟨y122638, rfl, hS, h⟩ := hI
                    rw [bins_Score_l2] at h
                    cases h
                  · obtain ⟨y122638, rfl, hS, h⟩ := hI
                    rw [bins_Score_l2] at h
                    refine WC.seq ?_
                    refine WC.seq ?_
                    refine WC.reg ?_
                    refine WL.val (R_fieldB o212_1 rfl) rfl rfl ?_
                    refine WL.val (R_load1 g210 rfl (hS.cell 1 rfl rfl)) rfl rfl ?_
                    refine WL.val (R_move rfl) rfl rfl ?_
                    obtain ⟨x122698, hx122699, h⟩ := bindS h
                    obtain ⟨ad122700, cs122701, hA122702, hq122703, hK122704, hc122705⟩ := hS.sget 2 rfl (rdS hx122699).2.2
                    obtain ⟨A122706, c122707, rfl, hs122708⟩ := hK122704
                    have hS := hS.addF (FSl (RI .i64) A122706 c122707 x122698.cats) hs122708
                    refine WL.val (R_indexAddr u210 z214 rfl rfl hA122702 (rdS hx122699).1 hq122703) rfl rfl ?_
                    refine WL.val (R_fieldAddr o214_0 rfl) rfl rfl ?_
                    refine WL.val (R_load1 g53 rfl (hc122705 0 _ rfl)) rfl rfl ?_
                    refine WL.val (R_cmp rfl rfl rfl) rfl rfl ?_
                    refine WL.nil ?_
                    refine WQ.thenC ?_
                    refine WC.cond rfl (fun hb122709 => ?_) (fun hb122709 => ?_)
                    · have h := ifT hb122709 h
                      refine WC.skip ?_
                      refine WQ.thenC ?_
                      refine WC.block ?_
                      refine WC.seq ?_
                      refine WC.draw fol (by kernel_rfl) hS ?_
                      refine QL.val (fun _ hw => R_fieldB o212_1 rfl) rfl ?_
                      refine QL.val (fun _ hw => R_load1 g210 rfl (lat hw (hS.cell 1 rfl rfl))) rfl ?_
                      refine QL.val (fun _ hw => R_move rfl) rfl ?_
                      obtain ⟨ad122710, cs122711, hA122712, hq122713, hK122714, hc122715⟩ := hS.sget 3 rfl (rdS hx122699).2.2
                      obtain ⟨A122716, c122717, rfl, hs122718⟩ := hK122714
                      have hS := hS.addF (FSl (RI .i64) A122716 c122717 x122698.cats) hs122718
                      refine QL.val (fun _ hw => R_indexAddr u210 z214 rfl rfl hA122712 (rdS hx122699).1 hq122713) rfl ?_
                      refine QL.val (fun _ hw => R_loadA g214 rfl rfl (lats hw hc122715)) rfl ?_
                      refine QL.val (fun _ hw => R_build (cells := #[.int .u8 x122698.kind, .int .i64 x122698.value, .int .i64 x122698.feature, .int .i64 x122698.rank, .slice A122716 x122698.cats.length c122717, .int .u8 x122698.missing, .int .i64 x122698.left, .int .i64 x122698.right]) rfl (by kernel_rfl)) rfl ?_
                      refine QL.val (fun _ hw => R_move rfl) rfl ?_
                      refine QL.val (fun _ hw => R_fieldB o212_1 rfl) rfl ?_
                      refine QL.val (fun _ hw => R_load1 g210 rfl (lat hw (hS.cell 1 rfl rfl))) rfl ?_
                      refine QL.val (fun _ hw => R_move rfl) rfl ?_
                      obtain ⟨ad122719, cs122720, hA122721, hq122722, hK122723, hc122724⟩ := hS.sget 4 rfl (rdS hx122699).2.2
                      obtain ⟨A122725, c122726, rfl, hs122727⟩ := hK122723
                      have hS := hS.addF (FSl (RI .i64) A122725 c122726 x122698.cats) hs122727
                      refine QL.val (fun _ hw => R_indexAddr u210 z214 rfl rfl hA122721 (rdS hx122699).1 hq122722) rfl ?_
                      refine QL.val (fun _ hw => R_fieldAddr o214_2 rfl) rfl ?_
                      refine QL.val (fun _ hw => R_load1 g3 rfl (lat hw (hc122724 2 _ rfl))) rfl ?_
                      obtain ⟨x122728, hx122729, h⟩ := bindS h
                      obtain ⟨ad122730, cs122731, hA122732, hq122733, hK122734, hc122735⟩ := hS.sget 3 rfl (rdS hx122729).2.2
                      obtain rfl := hK122734
                      refine QL.val (fun _ hw => R_indexAddr u72 z76 rfl rfl hA122732 (rdS hx122729).1 hq122733) rfl ?_
                      refine QL.val (fun _ hw => R_loadA g76 rfl rfl (lats hw hc122735)) rfl ?_
                      obtain ⟨r122736, hr122737, h⟩ := bindS h
                      refine QL.call (v := .bool r122736) e188 rfl rfl (fun _ hw => bins_node_left_ok ((hS.ext hw)).mx_lt k (⟨x122698⟩ : bins_node) x122728 ((hS.ext hw).sl 1 rfl) _ hr122737) rfl ?_
                      refine QL.last (fun w hb _ => ?_)
                      have hS := hS.ext hb
                      refine WQ.thenC ?_
                      refine WC.cond rfl (fun hb122738 => ?_) (fun hb122738 => ?_)
                      · have h := ifT hb122738 h
                        refine WC.reg ?_
                        refine WL.val (R_fieldB o212_1 rfl) rfl rfl ?_
                        refine WL.val (R_load1 g210 rfl (hS.cell 1 rfl rfl)) rfl rfl ?_
                        refine WL.val (R_move rfl) rfl rfl ?_
                        obtain ⟨ad122739, cs122740, hA122741, hq122742, hK122743, hc122744⟩ := hS.sget 5 rfl (rdS hx122699).2.2
                        obtain ⟨A122745, c122746, rfl, hs122747⟩ := hK122743
                        have hS := hS.addF (FSl (RI .i64) A122745 c122746 x122698.cats) hs122747
                        refine WL.val (R_indexAddr u210 z214 rfl rfl hA122741 (rdS hx122699).1 hq122742) rfl rfl ?_
                        refine WL.val (R_fieldAddr o214_6 rfl) rfl rfl ?_
                        refine WL.val (R_load1 g3 rfl (hc122744 6 _ rfl)) rfl rfl ?_
                        refine WL.val (R_assign rfl) rfl rfl ?_
                        refine WL.nil ?_
                        refine WQ.blockN ?_
                        have hS := hS.pick [0, 1] [4, 5, 6] rfl
                        exact WQ.toJ ⟨x122698.left, rfl, hS, h⟩ ⟨rfl, rfl, rfl, rfl, rfl, rfl, rfl, trivial⟩
                      · have h := ifF hb122738 h
                        refine WC.reg ?_
                        refine WL.val (R_fieldB o212_1 rfl) rfl rfl ?_
                        refine WL.val (R_load1 g210 rfl (hS.cell 1 rfl rfl)) rfl rfl ?_
                        refine WL.val (R_move rfl) rfl rfl ?_
                        obtain ⟨ad122748, cs122749, hA122750, hq122751, hK122752, hc122753⟩ := hS.sget 5 rfl (rdS hx122699).2.2
                        obtain ⟨A122754, c122755, rfl, hs122756⟩ := hK122752
                        have hS := hS.addF (FSl (RI .i64) A122754 c122755 x122698.cats) hs122756
                        refine WL.val (R_indexAddr u210 z214 rfl rfl hA122750 (rdS hx122699).1 hq122751) rfl rfl ?_
                        refine WL.val (R_fieldAddr o214_7 rfl) rfl rfl ?_
                        refine WL.val (R_load1 g3 rfl (hc122753 7 _ rfl)) rfl rfl ?_
                        refine WL.val (R_assign rfl) rfl rfl ?_
                        refine WL.nil ?_
                        refine WQ.blockN ?_
                        have hS := hS.pick [0, 1] [4, 5, 6] rfl
                        exact WQ.toJ ⟨x122698.right, rfl, hS, h⟩ ⟨rfl, rfl, rfl, rfl, rfl, rfl, rfl, trivial⟩
                    · have h := ifF hb122709 h
                      refine WC.exit ?_
                      refine WQ.thenE ?_
                      refine WQ.thenE ?_
                      refine WQ.blockE ?_
                      have hS := hS.pick [0, 1] [1, 2, 3] rfl
                      exact WQ.toJ ⟨y122638, Option.some.inj h, rfl, hS⟩ ⟨rfl, rfl, rfl, rfl, rfl, rfl, rfl, trivial⟩
                · rintro _ w ⟨y122575, rfl, rfl, hS⟩
                  have h := h122578
                  try dsimp only at h
                  obtain ⟨x122757, hx122758, h⟩ := bindS h
                  obtain ⟨x122765, hx122766, h⟩ := bindS h
                  obtain ⟨ad122767, cs122768, hA122769, hq122770, hK122771, hS⟩ := hS.hoist 2 rfl (rdS hx122766).2.2
                  obtain ⟨A122773, c122774, rfl, hs122775⟩ := hK122771
                  have hS := hS.addF (FSl (RI .i64) A122773 c122774 x122765.cats) hs122775
                  refine WC.held (Sta w0 M [Blk b122455 [.int .i64 x122444.output, .slice A122452 x122444.nodes.length c122453] 212] [FSl (RI .i64) A122773 c122774 x122765.cats, FCs (ad122767.add (y122575.toNat * 8)) [.int .u8 x122765.kind, .int .i64 x122765.value, .int .i64 x122765.feature, .int .i64 x122765.rank, .slice A122773 x122765.cats.length c122774, .int .u8 x122765.missing, .int .i64 x122765.left, .int .i64 x122765.right], FSl RCode A117197 c117198 p117196, FSl RBinTree A117193 c117194 p117183.trees, FSl RBinNode A122452 c122453 x122444.nodes]) fol hS rfl ?_
                  intro w hS
                  refine HL.val 0 #[true, false, false, false, false, false, false, false, false, false, false, false, false, false] rfl (by kernel_rfl) (by kernel_rfl) (by kernel_rfl) rfl rfl (hS.pick [1] [0, 1, 2, 3, 4] rfl) (fun w hS => R_move rfl) ?_
                  refine HL.val 1 #[true, true, false, false, false, false, false, false, false, false, false, false, false, false] rfl (by kernel_rfl) (by kernel_rfl) (by kernel_rfl) rfl rfl (hS.pick [1] [0, 1, 2, 3, 4] rfl) (fun w hS => R_fieldB o212_0 rfl) ?_
                  refine HL.val 2 #[true, true, true, false, false, false, false, false, false, false, false, false, false, false] rfl (by kernel_rfl) (by kernel_rfl) (by kernel_rfl) rfl rfl (hS.pick [1] [0, 1, 2, 3, 4] rfl) (fun w hS => R_load1 g3 rfl (hS.cell 0 rfl rfl)) ?_
                  refine HL.val 5 #[true, true, true, false, false, true, false, false, false, false, false, false, false, false] rfl (by kernel_rfl) (by kernel_rfl) (by kernel_rfl) rfl rfl (hS.pick [1] [0, 1, 2, 3, 4] rfl) (fun w hS => R_fieldB o212_1 rfl) ?_
                  refine HL.val 6 #[true, true, true, false, false, true, true, false, false, false, false, false, false, false] rfl (by kernel_rfl) (by kernel_rfl) (by kernel_rfl) rfl rfl (hS.pick [1] [0, 1, 2, 3, 4] rfl) (fun w hS => R_load1 g210 rfl (hS.cell 0 rfl rfl)) ?_
                  refine HL.val 7 #[true, true, true, false, false, true, true, true, false, false, false, false, false, false] rfl (by kernel_rfl) (by kernel_rfl) (by kernel_rfl) rfl rfl (hS.pick [1] [0, 1, 2, 3, 4] rfl) (fun w hS => R_move rfl) ?_
                  refine HL.val 8 #[true, true, true, false, false, true, true, true, true, false, false, false, false, false] rfl (by kernel_rfl) (by kernel_rfl) (by kernel_rfl) rfl rfl (hS.pick [1] [0, 1, 2, 3, 4] rfl) (fun w hS => R_indexAddr u210 z214 rfl rfl hA122769 (rdS hx122766).1 hq122770) ?_
                  refine HL.val 9 #[true, true, true, false, false, true, true, true, true, true, false, false, false, false] rfl (by kernel_rfl) (by kernel_rfl) (by kernel_rfl) rfl rfl (hS.pick [1] [0, 1, 2, 3, 4] rfl) (fun w hS => R_fieldAddr o214_1 rfl) ?_
                  refine HL.val 10 #[true, true, true, false, false, true, true, true, true, true, true, false, false, false] rfl (by kernel_rfl) (by kernel_rfl) (by kernel_rfl) rfl rfl (hS.pick [1] [0, 1, 2, 3, 4] rfl) (fun w hS => R_load1 g2 rfl (hS.fc 1 rfl 1 rfl)) ?_
                  refine HL.all [3] (by kernel_rfl) rfl ⟨?_, trivial⟩
                  refine HO.of #[true, true, true, true, false, true, true, true, true, true, true, false, false, false] rfl rfl ?_
                  obtain ⟨ad122759, cs122760, hA122761, hq122762, hK122763, hc122764⟩ := hS.rget 0 rfl (rdS hx122758).2.2
                  obtain rfl := hK122763
                  refine WL.val (R_indexAddr u23 z2 rfl rfl hA122761 (rdS hx122758).1 hq122762) rfl rfl ?_
                  refine WL.nil ?_
                  refine HL.next (hS.pick [1] [0, 1, 2, 3, 4] rfl) ?_
                  refine HL.all [4] (by kernel_rfl) rfl ⟨?_, trivial⟩
                  refine HO.of #[true, true, true, true, true, true, true, true, true, true, true, false, false, false] rfl rfl ?_
                  refine WL.val (R_load1 g2 rfl (hc122764 0 _ rfl)) rfl rfl ?_
                  refine WL.nil ?_
                  refine HL.next (hS.pick [1] [0, 1, 2, 3, 4] rfl) ?_
                  refine HL.val 11 #[true, true, true, true, true, true, true, true, true, true, true, true, false, false] rfl (by kernel_rfl) (by kernel_rfl) (by kernel_rfl) rfl rfl (hS.pick [1] [0, 1, 2, 3, 4] rfl) (fun w hS => R_ar rfl rfl rfl) ?_
                  refine HL.all [12] (by kernel_rfl) rfl ⟨?_, trivial⟩
                  refine HO.of #[true, true, true, true, true, true, true, true, true, true, true, true, true, false] rfl rfl ?_
                  obtain ⟨ad122776, cs122777, hA122778, hq122779, hK122780, hc122781⟩ := hS.rget 0 rfl (rdS hx122758).2.2
                  obtain rfl := hK122780
                  refine WL.val (R_indexAddr u23 z2 rfl rfl hA122778 (rdS hx122758).1 hq122779) rfl rfl ?_
                  refine WL.nil ?_
                  refine HL.next (hS.pick [1] [0, 1, 2, 3, 4] rfl) ?_
                  refine HL.all [13] (by kernel_rfl) rfl ⟨?_, trivial⟩
                  refine HO.of #[true, true, true, true, true, true, true, true, true, true, true, true, true, true] rfl rfl ?_
                  refine WL.storeR (R := (RI .i64)) (z := (IntKind.i64.wrap (x122757 + x122765.value))) 0 [.int .i64 (IntKind.i64.wrap (x122757 + x122765.value))] g2 hS rfl hA122778 rfl (by rw [Row.len (hS.res 0 rfl)]; exact hq122779) rfl rfl (rfl) ?_
                  intro w hS
                  refine WL.nil ?_
                  refine HL.next (hS.pick [1] [0, 1, 2, 3, 4] rfl) ?_
                  refine HL.done (by kernel_rfl) (HL.keepQ ?_)
                  refine WQ.blockN ?_
                  have hS := hS.pick [0] [2, 3] rfl
                  exact WQ.toJ ⟨(y121589.set x122444.output.toNat (IntKind.i64.wrap (x122757 + x122765.value))), A121586, y121589.length, c121588, Option.some.inj h, rfl, hS⟩ ⟨rfl, rfl, rfl, rfl, rfl, trivial⟩
              · rintro _ w ⟨y122440, A122437, n122438, c122439, rfl, rfl, hS⟩
                have h := h122443
                try dsimp only at h
                obtain rfl := Row.len (hS.res 0 rfl)
                refine WC.reg ?_
                refine WL.val (R_ar rfl rfl rfl) rfl rfl ?_
                refine WL.val (R_move rfl) rfl rfl ?_
                refine WL.nil ?_
                have hS := hS.pick [0] [0, 1] rfl
                exact WQ.toJ ⟨y122440, (IntKind.i64.wrap (y121590 + (1 : Int))), A122437, y122440.length, c122439, rfl, hS, h⟩ ⟨rfl, rfl, rfl, rfl, rfl, trivial⟩
            · have h := ifF hb122157 h
              refine WC.exit ?_
              refine WQ.thenE ?_
              refine WQ.thenE ?_
              refine WQ.blockE ?_
              have hS := hS.pick [0] [] rfl
              exact WQ.toJ ⟨y121589, A121586, y121589.length, c121588, Option.some.inj h, rfl, hS⟩ ⟨rfl, trivial⟩
        · rintro _ w ⟨y121016, A121013, n121014, c121015, rfl, rfl, hS⟩
          have h := h121019
          try dsimp only at h
          obtain rfl := Row.len (hS.res 0 rfl)
          refine WC.seq ?_
          refine WC.reg ?_
          refine WL.val (R_move rfl) rfl rfl ?_
          refine WL.val (R_assign rfl) rfl rfl ?_
          refine WL.val (R_assign rfl) rfl rfl ?_
          refine WL.nil ?_
          refine WQ.thenC ?_
          refine WC.ret ?_
          have hS0 := hS
          have hS := hS.pick [0] [] rfl
          have h := Option.some.inj h
          obtain ⟨rfl, rfl⟩ := Prod.mk.inj h
          exact ret_2 rfl rfl rfl ⟨_, rfl, hS.bel, ⟨A121013, y121016.length, c121015, rfl, hS.res 0 rfl⟩⟩

def bins_Run (k : Nat) (p58177 : Binned) (p58190 : List Nat) : Option ((List Int) × Int) :=
    (bins_Back k p58177).bind fun ⟨r122790, r122791⟩ =>
    if decide (r122791 ≠ (0 : Int)) = true then (some (([] : List Int), r122791)) else ((bins_Codes k p58177.bins p58190).bind fun ⟨r122804, r122805⟩ =>
    if decide (r122805 ≠ (0 : Int)) = true then (some (([] : List Int), r122805)) else ((bins_Score k p58177 r122804).bind fun ⟨r122812, r122813⟩ =>
    some (r122812, r122813)))

theorem bins_Run_ok {w0 : World} {M : MSet} (hM : ∀ k, M k → k < w0.heap.size) (k : Nat) (p58177 : Binned) (p58190 : List Nat) {A58178 : Option Addr} {c58179 : Nat} (hs58180 : p58177.bins.cuts.length ≤ c58179 ∧ Sl (RSl RF) M w0 A58178 p58177.bins.cuts) {A58181 : Option Addr} {c58182 : Nat} (hs58183 : p58177.bins.cats.length ≤ c58182 ∧ Sl (RSl (RI .i64)) M w0 A58181 p58177.bins.cats) {A58184 : Option Addr} {c58185 : Nat} (hs58186 : p58177.base.length ≤ c58185 ∧ Sl (RI .i64) M w0 A58184 p58177.base) {A58187 : Option Addr} {c58188 : Nat} (hs58189 : p58177.trees.length ≤ c58188 ∧ Sl RBinTree M w0 A58187 p58177.trees) {A58191 : Option Addr} {c58192 : Nat} (hs58193 : p58190.length ≤ c58192 ∧ Sl RF M w0 A58191 p58190) (r1 : List Int) (r2 : Int) (h : bins_Run k p58177 p58190 = some (r1, r2)) :
    Calls Tryz.prog 80 #[.agg #[.slice A58178 p58177.bins.cuts.length c58179, .slice A58181 p58177.bins.cats.length c58182, .int .i64 p58177.outputs, .slice A58184 p58177.base.length c58185, .slice A58187 p58177.trees.length c58188], .slice A58191 p58190.length c58192] w0 (Gives w0 fun v w' => ∃ (Ao : Option Addr), ∃ (no co : Nat), v = .tuple #[.slice Ao no co, .int .i64 r2] ∧ (Row (RI .i64) 2 (.slice Ao no co) r1).ok w0.heap.size (Mx M [Row (RI .i64) 2 (.slice Ao no co) r1]) w') := by
  have hS := Sta.init hM
  have hS := hS.arg hs58180
  have hS := hS.arg hs58183
  have hS := hS.arg hs58186
  have hS := hS.arg hs58189
  have hS := hS.arg hs58193
  unfold bins_Run at h
  refine calls_enter (n := 0) Tryz.func80 rfl [(0, .agg #[.slice A58178 p58177.bins.cuts.length c58179, .slice A58181 p58177.bins.cats.length c58182, .int .i64 p58177.outputs, .slice A58184 p58177.base.length c58185, .slice A58187 p58177.trees.length c58188]), (1, .slice A58191 p58190.length c58192)] rfl rfl ⟨rfl, rfl, trivial⟩ ?_
  refine WC.seq ?_
  refine WC.reg ?_
  refine WL.box [.slice A58178 p58177.bins.cuts.length c58179, .slice A58181 p58177.bins.cats.length c58182, .int .i64 p58177.outputs, .slice A58184 p58177.base.length c58185, .slice A58187 p58177.trees.length c58188] rfl rfl hS rfl ?_
  intro b122789 w hS
  refine WL.val (R_assign rfl) rfl rfl ?_
  refine WL.val (R_assign rfl) rfl rfl ?_
  refine WL.nil ?_
  refine WQ.thenC ?_
  refine WC.seq ?_
  refine WC.seq ?_
  refine WC.reg ?_
  refine WL.val (R_loadA g147 rfl rfl (hS.cells 0 (o := 0) (m := 5) rfl rfl)) rfl rfl ?_
  obtain ⟨⟨r122790, r122791⟩, hr122792, h⟩ := bindS h
  try dsimp only at h
  refine WL.call e136 rfl rfl hS (bins_Back_ok (hS).mx_lt k p58177 (hS.sl 4 rfl) (hS.sl 3 rfl) (hS.sl 2 rfl) (hS.sl 1 rfl) _ _ hr122792) rfl ?_
  intro v w hB hS hP
  obtain ⟨A122793, c122794, A122796, c122797, A122799, c122800, rfl, ho122795, ho122798, ho122801⟩ := hP
  have hS := hS.addF (FSl RStr A122793 c122794 r122790.features) ho122795
  have hS := hS.addF (FSl (RI .i64) A122796 c122797 r122790.base) ho122798
  have hS := hS.addF (FSl RTree A122799 c122800 r122790.trees) ho122801
  refine WL.val (R_move rfl) rfl rfl ?_
  refine WL.val (R_extract rfl rfl) rfl rfl ?_
  refine WL.val (R_extract rfl rfl) rfl rfl ?_
  refine WL.alloc _ z26 rfl hS rfl ?_
  intro b122802 w hS
  refine WL.storeB 0 [.string r122790.name, .slice A122793 r122790.features.length c122794, .int .i64 r122790.outputs, .slice A122796 r122790.base.length c122797, .slice A122799 r122790.trees.length c122800] g26 hS rfl rfl rfl rfl rfl rfl rfl [.string r122790.name, .slice A122793 r122790.features.length c122794, .int .i64 r122790.outputs, .slice A122796 r122790.base.length c122797, .slice A122799 r122790.trees.length c122800] rfl ?_
  intro w hS
  refine WL.val (R_assign rfl) rfl rfl ?_
  refine WL.nil ?_
  refine WQ.thenC ?_
  refine WC.seq ?_
  refine WC.reg ?_
  refine WL.val (R_move rfl) rfl rfl ?_
  refine WL.val (R_cmp rfl rfl rfl) rfl rfl ?_
  refine WL.nil ?_
  refine WQ.thenC ?_
  refine WC.cond rfl (fun hb122803 => ?_) (fun hb122803 => ?_)
  · have h := ifT hb122803 h
    refine WC.seq ?_
    refine WC.reg ?_
    refine WL.val (R_move rfl) rfl rfl ?_
    refine WL.val (R_assign rfl) rfl rfl ?_
    refine WL.val (R_assign rfl) rfl rfl ?_
    refine WL.nil ?_
    refine WQ.thenC ?_
    refine WC.ret ?_
    refine WQ.thenR ?_
    have hS := hS.nilRow (RI .i64) 2
    have hS0 := hS
    have hS := hS.pick [0] [0, 1, 2, 3, 4, 5, 6, 7] rfl
    have h := Option.some.inj h
    obtain ⟨rfl, rfl⟩ := Prod.mk.inj h
    exact ret_2 rfl rfl rfl ⟨_, rfl, hS.bel, ⟨none, 0, 0, rfl, hS.res 0 rfl⟩⟩
  · have h := ifF hb122803 h
    refine WC.skip ?_
    refine WQ.thenC ?_
    refine WC.seq ?_
    refine WC.reg ?_
    refine WL.val (R_fieldB o147_0 rfl) rfl rfl ?_
    refine WL.val (R_loadA g70 rfl rfl (hS.cells 1 (o := 0) (m := 2) rfl rfl)) rfl rfl ?_
    refine WL.val (R_move rfl) rfl rfl ?_
    obtain ⟨⟨r122804, r122805⟩, hr122806, h⟩ := bindS h
    try dsimp only at h
    have hS0 := hS
    refine WL.call e31 rfl rfl hS (bins_Codes_ok (hS).mx_lt k p58177.bins p58190 (hS.sl 7 rfl) (hS.sl 6 rfl) (hS.sl 3 rfl) _ _ hr122806) rfl ?_
    intro v w hB hS hP
    obtain ⟨A122807, n122808, c122809, rfl, ho122810⟩ := hP
    obtain rfl := Row.len ho122810
    have hS := hS0.ofRow hB ho122810
    refine WL.val (R_move rfl) rfl rfl ?_
    refine WL.val (R_extract rfl rfl) rfl rfl ?_
    refine WL.val (R_extract rfl rfl) rfl rfl ?_
    refine WL.val (R_assign rfl) rfl rfl ?_
    refine WL.val (R_assign rfl) rfl rfl ?_
    refine WL.nil ?_
    refine WQ.thenC ?_
    refine WC.seq ?_
    refine WC.seq ?_
    refine WC.reg ?_
    refine WL.val (R_move rfl) rfl rfl ?_
    refine WL.val (R_cmp rfl rfl rfl) rfl rfl ?_
    refine WL.nil ?_
    refine WQ.thenC ?_
    refine WC.cond rfl (fun hb122811 => ?_) (fun hb122811 => ?_)
    · have h := ifT hb122811 h
      refine WC.seq ?_
      refine WC.reg ?_
      refine WL.val (R_move rfl) rfl rfl ?_
      refine WL.val (R_assign rfl) rfl rfl ?_
      refine WL.val (R_assign rfl) rfl rfl ?_
      refine WL.nil ?_
      refine WQ.thenC ?_
      refine WC.ret ?_
      refine WQ.thenR ?_
      have hS := hS.nilRow (RI .i64) 2
      have hS0 := hS
      have hS := hS.pick [0] [0, 1, 2, 3, 4, 5, 6, 7] rfl
      have h := Option.some.inj h
      obtain ⟨rfl, rfl⟩ := Prod.mk.inj h
      exact ret_2 rfl rfl rfl ⟨_, rfl, hS.bel, ⟨none, 0, 0, rfl, hS.res 0 rfl⟩⟩
    · have h := ifF hb122811 h
      refine WC.skip ?_
      refine WQ.thenC ?_
      refine WC.seq ?_
      refine WC.reg ?_
      refine WL.val (R_loadA g147 rfl rfl (hS.cells 2 (o := 0) (m := 5) rfl rfl)) rfl rfl ?_
      refine WL.val (R_move rfl) rfl rfl ?_
      have hS := hS.freeze 0 rfl
      obtain ⟨⟨r122812, r122813⟩, hr122814, h⟩ := bindS h
      try dsimp only at h
      have hS0 := hS
      refine WL.call e137 rfl rfl hS (bins_Score_ok (hS).mx_lt k p58177 r122804 (hS.sl 8 rfl) (hS.sl 7 rfl) (hS.sl 6 rfl) (hS.sl 5 rfl) (hS.sl 0 rfl) _ _ hr122814) rfl ?_
      intro v w hB hS hP
      obtain ⟨A122815, n122816, c122817, rfl, ho122818⟩ := hP
      obtain rfl := Row.len ho122818
      have hS := hS0.ofRow hB ho122818
      refine WL.val (R_extract rfl rfl) rfl rfl ?_
      refine WL.val (R_extract rfl rfl) rfl rfl ?_
      refine WL.val (R_assign rfl) rfl rfl ?_
      refine WL.val (R_assign rfl) rfl rfl ?_
      refine WL.nil ?_
      refine WQ.thenC ?_
      refine WC.ret ?_
      have hS0 := hS
      have hS := hS.pick [0] [0, 1, 2, 3, 4, 5, 6, 7, 8] rfl
      have h := Option.some.inj h
      obtain ⟨rfl, rfl⟩ := Prod.mk.inj h
      exact ret_2 rfl rfl rfl ⟨_, rfl, hS.bel, ⟨A122815, r122812.length, c122817, rfl, hS.res 0 rfl⟩⟩

def thicketlaw20_begins (k : Nat) : Option Bool :=
    (bins_Compile k (⟨(⟨#[109]⟩ : ByteArray), ([(⟨#[97]⟩ : ByteArray)]), (1 : Int), ([(100 : Int)]), ([(⟨(0 : Int), ([(⟨(2 : Int), (0 : Int), (0 : Int), (4611686018427387904 : Nat), [], (2 : Int), (1 : Int), (2 : Int)⟩ : Node), (⟨(1 : Int), (10 : Int), (0 : Int), (0 : Nat), [], (0 : Int), (0 : Int), (0 : Int)⟩ : Node), (⟨(1 : Int), (20 : Int), (0 : Int), (0 : Nat), [], (0 : Int), (0 : Int), (0 : Int)⟩ : Node)])⟩ : Tree)])⟩ : Ensemble)).bind fun ⟨r122873, r122874⟩ =>
    (bins_Run k r122873 ([(4611686018427387904 : Nat)])).bind fun ⟨r122890, r122891⟩ =>
    if decide (r122874 = (0 : Int)) = true then (if decide (r122891 = (0 : Int)) = true then (if decide ((r122873.bins.cuts.length : Int) = (1 : Int)) = true then ((rd r122873.bins.cuts (0 : Int)).bind fun x122900 =>
    if decide ((x122900.length : Int) = (1 : Int)) = true then ((rd x122900 (0 : Int)).bind fun x122921 =>
    if (cmpF .eql x122921 (4611686018427387904 : Nat)) = true then (if decide ((r122890.length : Int) = (1 : Int)) = true then ((rd r122890 (0 : Int)).bind fun x122931 =>
    some (decide (x122931 = (110 : Int)))) else (some false)) else (some false)) else (some false)) else (some false)) else (some false)) else (some false)

theorem thicketlaw20_begins_ok {w0 : World} {M : MSet} (hM : ∀ k, M k → k < w0.heap.size) (k : Nat) (r : Bool) (h : thicketlaw20_begins k = some r) :
    Calls Tryz.prog 29 #[] w0 (Gives w0 fun v w' => v = .bool r) := by
  have hS := Sta.init hM
  unfold thicketlaw20_begins at h
  refine calls_enter (n := 0) Tryz.func29 rfl [] rfl rfl trivial ?_
  refine WC.seq ?_
  refine WC.reg ?_
  refine WL.val (R_assign rfl) rfl rfl ?_
  refine WL.nil ?_
  refine WQ.thenC ?_
  refine WC.seq ?_
  refine WC.reg ?_
  refine WL.lit [.string (⟨#[97]⟩ : ByteArray)] u22 rfl (by kernel_rfl) hS rfl ?_
  intro b122868 w hS
  refine WL.lit [.int .i64 (100 : Int)] u23 rfl (by kernel_rfl) hS rfl ?_
  intro b122869 w hS
  refine WL.val (R_build (cells := #[.int .u8 (2 : Int), .int .i64 (0 : Int), .int .i64 (0 : Int), .float .f64 (4611686018427387904 : Nat), .slice none 0 0, .int .u8 (2 : Int), .int .i64 (1 : Int), .int .i64 (2 : Int)]) rfl (by kernel_rfl)) rfl rfl ?_
  refine WL.val (R_build (cells := #[.int .u8 (1 : Int), .int .i64 (10 : Int), .int .i64 (0 : Int), .float .f64 (0 : Nat), .slice none 0 0, .int .u8 (0 : Int), .int .i64 (0 : Int), .int .i64 (0 : Int)]) rfl (by kernel_rfl)) rfl rfl ?_
  refine WL.val (R_build (cells := #[.int .u8 (1 : Int), .int .i64 (20 : Int), .int .i64 (0 : Int), .float .f64 (0 : Nat), .slice none 0 0, .int .u8 (0 : Int), .int .i64 (0 : Int), .int .i64 (0 : Int)]) rfl (by kernel_rfl)) rfl rfl ?_
  refine WL.lit [.int .u8 (2 : Int), .int .i64 (0 : Int), .int .i64 (0 : Int), .float .f64 (4611686018427387904 : Nat), .slice none 0 0, .int .u8 (2 : Int), .int .i64 (1 : Int), .int .i64 (2 : Int), .int .u8 (1 : Int), .int .i64 (10 : Int), .int .i64 (0 : Int), .float .f64 (0 : Nat), .slice none 0 0, .int .u8 (0 : Int), .int .i64 (0 : Int), .int .i64 (0 : Int), .int .u8 (1 : Int), .int .i64 (20 : Int), .int .i64 (0 : Int), .float .f64 (0 : Nat), .slice none 0 0, .int .u8 (0 : Int), .int .i64 (0 : Int), .int .i64 (0 : Int)] u50 rfl (by kernel_rfl) hS rfl ?_
  intro b122870 w hS
  refine WL.val (R_build (cells := #[.int .i64 (0 : Int), .slice (some ⟨b122870, 0, none⟩) 3 3]) rfl (by kernel_rfl)) rfl rfl ?_
  refine WL.lit [.int .i64 (0 : Int), .slice (some ⟨b122870, 0, none⟩) 3 3] u24 rfl (by kernel_rfl) hS rfl ?_
  intro b122871 w hS
  refine WL.val (R_build (cells := #[.string (⟨#[109]⟩ : ByteArray), .slice (some ⟨b122868, 0, none⟩) 1 1, .int .i64 (1 : Int), .slice (some ⟨b122869, 0, none⟩) 1 1, .slice (some ⟨b122871, 0, none⟩) 1 1]) rfl (by kernel_rfl)) rfl rfl ?_
  refine WL.alloc _ z26 rfl hS rfl ?_
  intro b122872 w hS
  refine WL.storeB 0 [.string (⟨#[109]⟩ : ByteArray), .slice (some ⟨b122868, 0, none⟩) 1 1, .int .i64 (1 : Int), .slice (some ⟨b122869, 0, none⟩) 1 1, .slice (some ⟨b122871, 0, none⟩) 1 1] g26 hS rfl rfl rfl rfl rfl rfl rfl [.string (⟨#[109]⟩ : ByteArray), .slice (some ⟨b122868, 0, none⟩) 1 1, .int .i64 (1 : Int), .slice (some ⟨b122869, 0, none⟩) 1 1, .slice (some ⟨b122871, 0, none⟩) 1 1] rfl ?_
  intro w hS
  refine WL.nil ?_
  refine WQ.thenC ?_
  refine WC.seq ?_
  refine WC.reg ?_
  refine WL.val (R_loadA g26 rfl rfl (hS.cells 0 (o := 0) (m := 5) rfl rfl)) rfl rfl ?_
  have hS := hS.litRow (R := RStr) 4 rfl [(⟨#[97]⟩ : ByteArray)] 1 rfl (by decide) (fun M2 hs2 => ⟨[_], _, rfl, rfl, rfl⟩)
  have hS := hS.freeze 4 rfl
  have hS := hS.litRow (R := (RI .i64)) 3 rfl [(100 : Int)] 1 rfl (by decide) (fun M2 hs2 => ⟨[_], _, rfl, rfl, rfl⟩)
  have hS := hS.freeze 3 rfl
  have hS := hS.litRow (R := RNode) 2 rfl [(⟨(2 : Int), (0 : Int), (0 : Int), (4611686018427387904 : Nat), [], (2 : Int), (1 : Int), (2 : Int)⟩ : Node), (⟨(1 : Int), (10 : Int), (0 : Int), (0 : Nat), [], (0 : Int), (0 : Int), (0 : Int)⟩ : Node), (⟨(1 : Int), (20 : Int), (0 : Int), (0 : Nat), [], (0 : Int), (0 : Int), (0 : Int)⟩ : Node)] 3 rfl (by decide) (fun M2 hs2 => ⟨[_, _, _, _, _, _, _, _], _, rfl, ⟨none, 0, rfl, slnil⟩, ⟨[_, _, _, _, _, _, _, _], _, rfl, ⟨none, 0, rfl, slnil⟩, ⟨[_, _, _, _, _, _, _, _], _, rfl, ⟨none, 0, rfl, slnil⟩, rfl⟩⟩⟩)
  have hS := hS.freeze 2 rfl
  have hS := hS.litRow (R := RTree) 1 rfl [(⟨(0 : Int), ([(⟨(2 : Int), (0 : Int), (0 : Int), (4611686018427387904 : Nat), [], (2 : Int), (1 : Int), (2 : Int)⟩ : Node), (⟨(1 : Int), (10 : Int), (0 : Int), (0 : Nat), [], (0 : Int), (0 : Int), (0 : Int)⟩ : Node), (⟨(1 : Int), (20 : Int), (0 : Int), (0 : Nat), [], (0 : Int), (0 : Int), (0 : Int)⟩ : Node)])⟩ : Tree)] 1 rfl (by decide) (fun M2 hs2 => (Elems.step hs2 (show Elems RTree (Mx M _) _ _ _ from ⟨[_, _], _, rfl, ⟨(some ⟨b122870, 0, none⟩), 3, rfl, hS.sl 0 rfl⟩, rfl⟩)))
  have hS := hS.freeze 1 rfl
  obtain ⟨⟨r122873, r122874⟩, hr122875, h⟩ := bindS h
  try dsimp only at h
  refine WL.call e79 rfl rfl hS (bins_Compile_ok (hS).mx_lt k (⟨(⟨#[109]⟩ : ByteArray), ([(⟨#[97]⟩ : ByteArray)]), (1 : Int), ([(100 : Int)]), ([(⟨(0 : Int), ([(⟨(2 : Int), (0 : Int), (0 : Int), (4611686018427387904 : Nat), [], (2 : Int), (1 : Int), (2 : Int)⟩ : Node), (⟨(1 : Int), (10 : Int), (0 : Int), (0 : Nat), [], (0 : Int), (0 : Int), (0 : Int)⟩ : Node), (⟨(1 : Int), (20 : Int), (0 : Int), (0 : Nat), [], (0 : Int), (0 : Int), (0 : Int)⟩ : Node)])⟩ : Tree)])⟩ : Ensemble) (hS.sl 3 rfl) (hS.sl 2 rfl) (hS.sl 0 rfl) _ _ hr122875) rfl ?_
  intro v w hB hS hP
  obtain ⟨A122876, c122877, A122879, c122880, A122882, c122883, A122885, c122886, rfl, ho122878, ho122881, ho122884, ho122887⟩ := hP
  have hS := hS.addF (FSl (RSl RF) A122876 c122877 r122873.bins.cuts) ho122878
  have hS := hS.addF (FSl (RSl (RI .i64)) A122879 c122880 r122873.bins.cats) ho122881
  have hS := hS.addF (FSl (RI .i64) A122882 c122883 r122873.base) ho122884
  have hS := hS.addF (FSl RBinTree A122885 c122886 r122873.trees) ho122887
  refine WL.val (R_move rfl) rfl rfl ?_
  refine WL.val (R_extract rfl rfl) rfl rfl ?_
  refine WL.val (R_extract rfl rfl) rfl rfl ?_
  refine WL.alloc _ z147 rfl hS rfl ?_
  intro b122888 w hS
  refine WL.storeB 0 [.slice A122876 r122873.bins.cuts.length c122877, .slice A122879 r122873.bins.cats.length c122880, .int .i64 r122873.outputs, .slice A122882 r122873.base.length c122883, .slice A122885 r122873.trees.length c122886] g147 hS rfl rfl rfl rfl rfl rfl rfl [.slice A122876 r122873.bins.cuts.length c122877, .slice A122879 r122873.bins.cats.length c122880, .int .i64 r122873.outputs, .slice A122882 r122873.base.length c122883, .slice A122885 r122873.trees.length c122886] rfl ?_
  intro w hS
  refine WL.val (R_assign rfl) rfl rfl ?_
  refine WL.nil ?_
  refine WQ.thenC ?_
  refine WC.seq ?_
  refine WC.reg ?_
  refine WL.val (R_loadA g147 rfl rfl (hS.cells 0 (o := 0) (m := 5) rfl rfl)) rfl rfl ?_
  refine WL.lit [.float .f64 (4611686018427387904 : Nat)] u65 rfl (by kernel_rfl) hS rfl ?_
  intro b122889 w hS
  have hS := hS.litRow (R := RF) 0 rfl [(4611686018427387904 : Nat)] 1 rfl (by decide) (fun M2 hs2 => ⟨[_], _, rfl, rfl, rfl⟩)
  have hS := hS.freeze 0 rfl
  obtain ⟨⟨r122890, r122891⟩, hr122892, h⟩ := bindS h
  try dsimp only at h
  have hS0 := hS
  refine WL.call e80 rfl rfl hS (bins_Run_ok (hS).mx_lt k r122873 ([(4611686018427387904 : Nat)]) (hS.sl 4 rfl) (hS.sl 3 rfl) (hS.sl 2 rfl) (hS.sl 1 rfl) (hS.sl 0 rfl) _ _ hr122892) rfl ?_
  intro v w hB hS hP
  obtain ⟨A122893, n122894, c122895, rfl, ho122896⟩ := hP
  obtain rfl := Row.len ho122896
  have hS := hS0.ofRow hB ho122896
  refine WL.val (R_move rfl) rfl rfl ?_
  refine WL.val (R_extract rfl rfl) rfl rfl ?_
  refine WL.val (R_extract rfl rfl) rfl rfl ?_
  refine WL.val (R_assign rfl) rfl rfl ?_
  refine WL.val (R_assign rfl) rfl rfl ?_
  refine WL.nil ?_
  refine WQ.thenC ?_
  refine WC.seq ?_
  refine WC.reg ?_
  refine WL.val (R_move rfl) rfl rfl ?_
  refine WL.val (R_cmp rfl rfl rfl) rfl rfl ?_
  refine WL.val (R_move rfl) rfl rfl ?_
  rcases boolS h with ⟨hb122897, h⟩ | ⟨hb122897, h⟩
  · refine WL.gvalb rfl rfl rfl hb122897 (R_move rfl) rfl rfl ?_
    refine WL.gvalb rfl rfl rfl hb122897 (R_cmp rfl rfl rfl) rfl rfl ?_
    refine WL.val (R_pickTb rfl hb122897 rfl) rfl rfl ?_
    refine WL.val (R_move rfl) rfl rfl ?_
    rcases boolS h with ⟨hb122898, h⟩ | ⟨hb122898, h⟩
    · refine WL.gvalb rfl rfl rfl hb122898 (R_fieldB o147_0 rfl) rfl rfl ?_
      refine WL.gvalb rfl rfl rfl hb122898 (R_fieldB o70_0 rfl) rfl rfl ?_
      refine WL.gvalb rfl rfl rfl hb122898 (R_load1 g62 rfl (hS.cell 1 rfl rfl)) rfl rfl ?_
      refine WL.gvalb rfl rfl rfl hb122898 (R_lenS u62 rfl) rfl rfl ?_
      refine WL.gvalb rfl rfl rfl hb122898 (R_cmp rfl rfl rfl) rfl rfl ?_
      refine WL.val (R_pickTb rfl hb122898 rfl) rfl rfl ?_
      refine WL.val (R_move rfl) rfl rfl ?_
      rcases boolS h with ⟨hb122899, h⟩ | ⟨hb122899, h⟩
      · refine WL.gvalb rfl rfl rfl hb122899 (R_fieldB o147_0 rfl) rfl rfl ?_
        refine WL.gvalb rfl rfl rfl hb122899 (R_fieldB o70_0 rfl) rfl rfl ?_
        refine WL.gvalb rfl rfl rfl hb122899 (R_load1 g62 rfl (hS.cell 1 rfl rfl)) rfl rfl ?_
        obtain ⟨x122900, hx122901, h⟩ := bindS h
        obtain ⟨ad122902, cs122903, hA122904, hq122905, hK122906, hc122907⟩ := hS.sget 4 rfl (rdS hx122901).2.2
        obtain ⟨A122908, c122909, rfl, hs122910⟩ := hK122906
        have hS := hS.addF (FSl RF A122908 c122909 x122900) hs122910
        refine WL.gvalb rfl rfl rfl hb122899 (R_indexAddr u62 z65 rfl rfl hA122904 (rdS hx122901).1 hq122905) rfl rfl ?_
        refine WL.gvalb rfl rfl rfl hb122899 (R_load1 g65 rfl (hc122907 0 _ rfl)) rfl rfl ?_
        refine WL.gvalb rfl rfl rfl hb122899 (R_lenS u65 rfl) rfl rfl ?_
        refine WL.gvalb rfl rfl rfl hb122899 (R_cmp rfl rfl rfl) rfl rfl ?_
        refine WL.val (R_pickTb rfl hb122899 rfl) rfl rfl ?_
        refine WL.val (R_move rfl) rfl rfl ?_
        rcases boolS h with ⟨hb122911, h⟩ | ⟨hb122911, h⟩
        · refine WL.gvalb rfl rfl rfl hb122911 (R_fieldB o147_0 rfl) rfl rfl ?_
          refine WL.gvalb rfl rfl rfl hb122911 (R_fieldB o70_0 rfl) rfl rfl ?_
          refine WL.gvalb rfl rfl rfl hb122911 (R_load1 g62 rfl (hS.cell 1 rfl rfl)) rfl rfl ?_
          obtain ⟨ad122912, cs122913, hA122914, hq122915, hK122916, hc122917⟩ := hS.sget 5 rfl (rdS hx122901).2.2
          obtain ⟨A122918, c122919, rfl, hs122920⟩ := hK122916
          have hS := hS.addF (FSl RF A122918 c122919 x122900) hs122920
          refine WL.gvalb rfl rfl rfl hb122911 (R_indexAddr u62 z65 rfl rfl hA122914 (rdS hx122901).1 hq122915) rfl rfl ?_
          refine WL.gvalb rfl rfl rfl hb122911 (R_load1 g65 rfl (hc122917 0 _ rfl)) rfl rfl ?_
          obtain ⟨x122921, hx122922, h⟩ := bindS h
          obtain ⟨ad122923, cs122924, hA122925, hq122926, hK122927, hc122928⟩ := hS.sget 0 rfl (rdS hx122922).2.2
          obtain rfl := hK122927
          refine WL.gvalb rfl rfl rfl hb122911 (R_indexAddr u65 z54 rfl rfl hA122925 (rdS hx122922).1 hq122926) rfl rfl ?_
          refine WL.gvalb rfl rfl rfl hb122911 (R_load1 g54 rfl (hc122928 0 _ rfl)) rfl rfl ?_
          refine WL.gvalb rfl rfl rfl hb122911 (R_cmpF rfl rfl rfl) rfl rfl ?_
          refine WL.val (R_pickTb rfl hb122911 rfl) rfl rfl ?_
          refine WL.val (R_move rfl) rfl rfl ?_
          rcases boolS h with ⟨hb122929, h⟩ | ⟨hb122929, h⟩
          · refine WL.gvalb rfl rfl rfl hb122929 (R_move rfl) rfl rfl ?_
            refine WL.gvalb rfl rfl rfl hb122929 (R_lenS u23 rfl) rfl rfl ?_
            refine WL.gvalb rfl rfl rfl hb122929 (R_cmp rfl rfl rfl) rfl rfl ?_
            refine WL.val (R_pickTb rfl hb122929 rfl) rfl rfl ?_
            refine WL.val (R_move rfl) rfl rfl ?_
            rcases boolS h with ⟨hb122930, h⟩ | ⟨hb122930, h⟩
            · refine WL.gvalb rfl rfl rfl hb122930 (R_move rfl) rfl rfl ?_
              obtain ⟨x122931, hx122932, h⟩ := bindS h
              obtain ⟨ad122933, cs122934, hA122935, hq122936, hK122937, hc122938⟩ := hS.rget 0 rfl (rdS hx122932).2.2
              obtain rfl := hK122937
              refine WL.gvalb rfl rfl rfl hb122930 (R_indexAddr u23 z2 rfl rfl hA122935 (rdS hx122932).1 hq122936) rfl rfl ?_
              refine WL.gvalb rfl rfl rfl hb122930 (R_load1 g2 rfl (hc122938 0 _ rfl)) rfl rfl ?_
              refine WL.gvalb rfl rfl rfl hb122930 (R_cmp rfl rfl rfl) rfl rfl ?_
              refine WL.val (R_pickTb rfl hb122930 rfl) rfl rfl ?_
              refine WL.val (R_assign rfl) rfl rfl ?_
              refine WL.nil ?_
              refine WQ.thenC ?_
              refine WC.ret ?_
              have hS0 := hS
              obtain rfl := Option.some.inj h
              exact ret_1 rfl rfl ⟨_, rfl, hS.bel, rfl⟩
            · refine WL.gskip rfl rfl rfl hb122930 rfl ?_
              refine WL.gskip rfl rfl rfl hb122930 rfl ?_
              refine WL.gskip rfl rfl rfl hb122930 rfl ?_
              refine WL.gskip rfl rfl rfl hb122930 rfl ?_
              refine WL.val (R_pickFb rfl hb122930 rfl) rfl rfl ?_
              refine WL.val (R_assign rfl) rfl rfl ?_
              refine WL.nil ?_
              refine WQ.thenC ?_
              refine WC.ret ?_
              have hS0 := hS
              obtain rfl := Option.some.inj h
              exact ret_1 rfl rfl ⟨_, rfl, hS.bel, rfl⟩
          · refine WL.gskip rfl rfl rfl hb122929 rfl ?_
            refine WL.gskip rfl rfl rfl hb122929 rfl ?_
            refine WL.gskip rfl rfl rfl hb122929 rfl ?_
            refine WL.val (R_pickFb rfl hb122929 rfl) rfl rfl ?_
            refine WL.val (R_move rfl) rfl rfl ?_
            refine WL.gskip rfl rfl rfl rfl rfl ?_
            refine WL.gskip rfl rfl rfl rfl rfl ?_
            refine WL.gskip rfl rfl rfl rfl rfl ?_
            refine WL.gskip rfl rfl rfl rfl rfl ?_
            refine WL.val (R_pickFb rfl rfl rfl) rfl rfl ?_
            refine WL.val (R_assign rfl) rfl rfl ?_
            refine WL.nil ?_
            refine WQ.thenC ?_
            refine WC.ret ?_
            have hS0 := hS
            obtain rfl := Option.some.inj h
            exact ret_1 rfl rfl ⟨_, rfl, hS.bel, rfl⟩
        · refine WL.gskip rfl rfl rfl hb122911 rfl ?_
          refine WL.gskip rfl rfl rfl hb122911 rfl ?_
          refine WL.gskip rfl rfl rfl hb122911 rfl ?_
          refine WL.gskip rfl rfl rfl hb122911 rfl ?_
          refine WL.gskip rfl rfl rfl hb122911 rfl ?_
          refine WL.gskip rfl rfl rfl hb122911 rfl ?_
          refine WL.gskip rfl rfl rfl hb122911 rfl ?_
          refine WL.gskip rfl rfl rfl hb122911 rfl ?_
          refine WL.val (R_pickFb rfl hb122911 rfl) rfl rfl ?_
          refine WL.val (R_move rfl) rfl rfl ?_
          refine WL.gskip rfl rfl rfl rfl rfl ?_
          refine WL.gskip rfl rfl rfl rfl rfl ?_
          refine WL.gskip rfl rfl rfl rfl rfl ?_
          refine WL.val (R_pickFb rfl rfl rfl) rfl rfl ?_
          refine WL.val (R_move rfl) rfl rfl ?_
          refine WL.gskip rfl rfl rfl rfl rfl ?_
          refine WL.gskip rfl rfl rfl rfl rfl ?_
          refine WL.gskip rfl rfl rfl rfl rfl ?_
          refine WL.gskip rfl rfl rfl rfl rfl ?_
          refine WL.val (R_pickFb rfl rfl rfl) rfl rfl ?_
          refine WL.val (R_assign rfl) rfl rfl ?_
          refine WL.nil ?_
          refine WQ.thenC ?_
          refine WC.ret ?_
          have hS0 := hS
          obtain rfl := Option.some.inj h
          exact ret_1 rfl rfl ⟨_, rfl, hS.bel, rfl⟩
      · refine WL.gskip rfl rfl rfl hb122899 rfl ?_
        refine WL.gskip rfl rfl rfl hb122899 rfl ?_
        refine WL.gskip rfl rfl rfl hb122899 rfl ?_
        refine WL.gskip rfl rfl rfl hb122899 rfl ?_
        refine WL.gskip rfl rfl rfl hb122899 rfl ?_
        refine WL.gskip rfl rfl rfl hb122899 rfl ?_
        refine WL.gskip rfl rfl rfl hb122899 rfl ?_
        refine WL.val (R_pickFb rfl hb122899 rfl) rfl rfl ?_
        refine WL.val (R_move rfl) rfl rfl ?_
        refine WL.gskip rfl rfl rfl rfl rfl ?_
        refine WL.gskip rfl rfl rfl rfl rfl ?_
        refine WL.gskip rfl rfl rfl rfl rfl ?_
        refine WL.gskip rfl rfl rfl rfl rfl ?_
        refine WL.gskip rfl rfl rfl rfl rfl ?_
        refine WL.gskip rfl rfl rfl rfl rfl ?_
        refine WL.gskip rfl rfl rfl rfl rfl ?_
        refine WL.gskip rfl rfl rfl rfl rfl ?_
        refine WL.val (R_pickFb rfl rfl rfl) rfl rfl ?_
        refine WL.val (R_move rfl) rfl rfl ?_
        refine WL.gskip rfl rfl rfl rfl rfl ?_
        refine WL.gskip rfl rfl rfl rfl rfl ?_
        refine WL.gskip rfl rfl rfl rfl rfl ?_
        refine WL.val (R_pickFb rfl rfl rfl) rfl rfl ?_
        refine WL.val (R_move rfl) rfl rfl ?_
        refine WL.gskip rfl rfl rfl rfl rfl ?_
        refine WL.gskip rfl rfl rfl rfl rfl ?_
        refine WL.gskip rfl rfl rfl rfl rfl ?_
        refine WL.gskip rfl rfl rfl rfl rfl ?_
        refine WL.val (R_pickFb rfl rfl rfl) rfl rfl ?_
        refine WL.val (R_assign rfl) rfl rfl ?_
        refine WL.nil ?_
        refine WQ.thenC ?_
        refine WC.ret ?_
        have hS0 := hS
        obtain rfl := Option.some.inj h
        exact ret_1 rfl rfl ⟨_, rfl, hS.bel, rfl⟩
    · refine WL.gskip rfl rfl rfl hb122898 rfl ?_
      refine WL.gskip rfl rfl rfl hb122898 rfl ?_
      refine WL.gskip rfl rfl rfl hb122898 rfl ?_
      refine WL.gskip rfl rfl rfl hb122898 rfl ?_
      refine WL.gskip rfl rfl rfl hb122898 rfl ?_
      refine WL.val (R_pickFb rfl hb122898 rfl) rfl rfl ?_
      refine WL.val (R_move rfl) rfl rfl ?_
      refine WL.gskip rfl rfl rfl rfl rfl ?_
      refine WL.gskip rfl rfl rfl rfl rfl ?_
      refine WL.gskip rfl rfl rfl rfl rfl ?_
      refine WL.gskip rfl rfl rfl rfl rfl ?_
      refine WL.gskip rfl rfl rfl rfl rfl ?_
      refine WL.gskip rfl rfl rfl rfl rfl ?_
      refine WL.gskip rfl rfl rfl rfl rfl ?_
      refine WL.val (R_pickFb rfl rfl rfl) rfl rfl ?_
      refine WL.val (R_move rfl) rfl rfl ?_
      refine WL.gskip rfl rfl rfl rfl rfl ?_
      refine WL.gskip rfl rfl rfl rfl rfl ?_
      refine WL.gskip rfl rfl rfl rfl rfl ?_
      refine WL.gskip rfl rfl rfl rfl rfl ?_
      refine WL.gskip rfl rfl rfl rfl rfl ?_
      refine WL.gskip rfl rfl rfl rfl rfl ?_
      refine WL.gskip rfl rfl rfl rfl rfl ?_
      refine WL.gskip rfl rfl rfl rfl rfl ?_
      refine WL.val (R_pickFb rfl rfl rfl) rfl rfl ?_
      refine WL.val (R_move rfl) rfl rfl ?_
      refine WL.gskip rfl rfl rfl rfl rfl ?_
      refine WL.gskip rfl rfl rfl rfl rfl ?_
      refine WL.gskip rfl rfl rfl rfl rfl ?_
      refine WL.val (R_pickFb rfl rfl rfl) rfl rfl ?_
      refine WL.val (R_move rfl) rfl rfl ?_
      refine WL.gskip rfl rfl rfl rfl rfl ?_
      refine WL.gskip rfl rfl rfl rfl rfl ?_
      refine WL.gskip rfl rfl rfl rfl rfl ?_
      refine WL.gskip rfl rfl rfl rfl rfl ?_
      refine WL.val (R_pickFb rfl rfl rfl) rfl rfl ?_
      refine WL.val (R_assign rfl) rfl rfl ?_
      refine WL.nil ?_
      refine WQ.thenC ?_
      refine WC.ret ?_
      have hS0 := hS
      obtain rfl := Option.some.inj h
      exact ret_1 rfl rfl ⟨_, rfl, hS.bel, rfl⟩
  · refine WL.gskip rfl rfl rfl hb122897 rfl ?_
    refine WL.gskip rfl rfl rfl hb122897 rfl ?_
    refine WL.val (R_pickFb rfl hb122897 rfl) rfl rfl ?_
    refine WL.val (R_move rfl) rfl rfl ?_
    refine WL.gskip rfl rfl rfl rfl rfl ?_
    refine WL.gskip rfl rfl rfl rfl rfl ?_
    refine WL.gskip rfl rfl rfl rfl rfl ?_
    refine WL.gskip rfl rfl rfl rfl rfl ?_
    refine WL.gskip rfl rfl rfl rfl rfl ?_
    refine WL.val (R_pickFb rfl rfl rfl) rfl rfl ?_
    refine WL.val (R_move rfl) rfl rfl ?_
    refine WL.gskip rfl rfl rfl rfl rfl ?_
    refine WL.gskip rfl rfl rfl rfl rfl ?_
    refine WL.gskip rfl rfl rfl rfl rfl ?_
    refine WL.gskip rfl rfl rfl rfl rfl ?_
    refine WL.gskip rfl rfl rfl rfl rfl ?_
    refine WL.gskip rfl rfl rfl rfl rfl ?_
    refine WL.gskip rfl rfl rfl rfl rfl ?_
    refine WL.val (R_pickFb rfl rfl rfl) rfl rfl ?_
    refine WL.val (R_move rfl) rfl rfl ?_
    refine WL.gskip rfl rfl rfl rfl rfl ?_
    refine WL.gskip rfl rfl rfl rfl rfl ?_
    refine WL.gskip rfl rfl rfl rfl rfl ?_
    refine WL.gskip rfl rfl rfl rfl rfl ?_
    refine WL.gskip rfl rfl rfl rfl rfl ?_
    refine WL.gskip rfl rfl rfl rfl rfl ?_
    refine WL.gskip rfl rfl rfl rfl rfl ?_
    refine WL.gskip rfl rfl rfl rfl rfl ?_
    refine WL.val (R_pickFb rfl rfl rfl) rfl rfl ?_
    refine WL.val (R_move rfl) rfl rfl ?_
    refine WL.gskip rfl rfl rfl rfl rfl ?_
    refine WL.gskip rfl rfl rfl rfl rfl ?_
    refine WL.gskip rfl rfl rfl rfl rfl ?_
    refine WL.val (R_pickFb rfl rfl rfl) rfl rfl ?_
    refine WL.val (R_move rfl) rfl rfl ?_
    refine WL.gskip rfl rfl rfl rfl rfl ?_
    refine WL.gskip rfl rfl rfl rfl rfl ?_
    refine WL.gskip rfl rfl rfl rfl rfl ?_
    refine WL.gskip rfl rfl rfl rfl rfl ?_
    refine WL.val (R_pickFb rfl rfl rfl) rfl rfl ?_
    refine WL.val (R_assign rfl) rfl rfl ?_
    refine WL.nil ?_
    refine WQ.thenC ?_
    refine WC.ret ?_
    have hS0 := hS
    obtain rfl := Option.some.inj h
    exact ret_1 rfl rfl ⟨_, rfl, hS.bel, rfl⟩

def thicketlaw20_BinsRanks_l0 (k : Nat) (p1 : List Nat) (r123146 : List Code) (p5 : Nat) : Nat → Int → Option (Fl Bool Unit)
  | 0, _ => none
  | m + 1, y123281 =>
    if decide (y123281 < (p1.length : Int)) = true then ((rd p1 y123281).bind fun x123301 =>
    (rd r123146 (0 : Int)).bind fun x123309 =>
    if ((cmpF .leq p5 x123301) != decide (x123309.bin ≤ y123281)) = true then ((some false).map Fl.ret) else (thicketlaw20_BinsRanks_l0 k p1 r123146 p5 m (IntKind.i64.wrap (y123281 + (1 : Int))))) else (some (.go ()))

def thicketlaw20_BinsRanks (k : Nat) (p1 : List Nat) (p5 : Nat) (p6 : Nat) : Option Bool :=
    (thicketlaw20_begins 9 ).bind fun r123128 =>
    if (!r123128) = true then (some false) else ((bins_Right k (⟨[p1], [[]]⟩ : Bins)).bind fun r123134 =>
    if (!r123134) = true then ((bins_Codes k (⟨[p1], [[]]⟩ : Bins) [p5]).bind fun ⟨r123138, r123139⟩ =>
    some (decide (r123139 = (200 : Int)))) else ((bins_Codes k (⟨[p1], [[]]⟩ : Bins) [p5]).bind fun ⟨r123146, r123147⟩ =>
    (bins_Codes k (⟨[p1], [[]]⟩ : Bins) [p6]).bind fun ⟨r123154, r123155⟩ =>
    (if decide (r123147 ≠ (0 : Int)) = true then ((some false).map Fl.ret) else (if decide (r123155 ≠ (0 : Int)) = true then ((some false).map Fl.ret) else (if decide ((r123146.length : Int) ≠ (1 : Int)) = true then ((some false).map Fl.ret) else (if decide ((r123154.length : Int) ≠ (1 : Int)) = true then ((some false).map Fl.ret) else (some (.go ()))))) : Option (Fl Bool Unit)).bind fun o => match o with
    | .ret r => some r
    | .go _ =>
    (((if (cmpF .neq p5 p5) = true then (some true) else (some (cmpF .neq p6 p6)) : Option Bool).bind fun y123200 =>
    if y123200 = true then ((rd r123146 (0 : Int)).bind fun x123206 =>
    if (x123206.lost == (cmpF .neq p5 p5)) = true then ((rd r123154 (0 : Int)).bind fun x123215 =>
    (some (x123215.lost == (cmpF .neq p6 p6))).map Fl.ret) else ((some false).map Fl.ret)) else (some (.go ())) : Option (Fl Bool Unit)).bind fun o => match o with
    | .ret r => some r
    | .go _ =>
    ((thicketlaw20_BinsRanks_l0 k p1 r123146 p5 k (0 : Int) : Option (Fl Bool Unit)).bind fun o => match o with
    | .ret r => some r
    | .go _ =>
    (if (!(cmpF .leq p5 p6)) = true then (some true) else ((rd r123146 (0 : Int)).bind fun x123319 =>
    (rd r123154 (0 : Int)).bind fun x123327 =>
    some (decide (x123319.bin ≤ x123327.bin))))))))

theorem thicketlaw20_BinsRanks_ok {w0 : World} {M : MSet} (hM : ∀ k, M k → k < w0.heap.size) (k : Nat) (p1 : List Nat) (p5 : Nat) (p6 : Nat) {A2 : Option Addr} {c3 : Nat} (hs4 : p1.length ≤ c3 ∧ Sl RF M w0 A2 p1) (r : Bool) (h : thicketlaw20_BinsRanks k p1 p5 p6 = some r) :
    Calls Tryz.prog 8 #[.slice A2 p1.length c3, .float .f64 p5, .float .f64 p6] w0 (Gives w0 fun v w' => v = .bool r) := by
  have hS := Sta.init hM
  have hS := hS.arg hs4
  unfold thicketlaw20_BinsRanks at h
  refine calls_enter (n := 0) Tryz.func8 rfl [(0, .slice A2 p1.length c3), (1, .float .f64 p5), (2, .float .f64 p6)] rfl rfl ⟨rfl, rfl, rfl, trivial⟩ ?_
  refine WC.seq ?_
  refine WC.reg ?_
  refine WL.val (R_assign rfl) rfl rfl ?_
  refine WL.nil ?_
  refine WQ.thenC ?_
  refine WC.seq ?_
  refine WC.seq ?_
  refine WC.reg ?_
  obtain ⟨r123128, hr123129, h⟩ := bindS h
  refine WL.call e29 rfl rfl hS (thicketlaw20_begins_ok (hS).mx_lt 9   _ hr123129) rfl ?_
  intro v w hB hS hP
  obtain ⟨rfl⟩ := hP
  refine WL.val (R_not rfl) rfl rfl ?_
  refine WL.nil ?_
  refine WQ.thenC ?_
  refine WC.cond rfl (fun hb123130 => ?_) (fun hb123130 => ?_)
  · have h := ifT hb123130 h
    refine WC.seq ?_
    refine WC.reg ?_
    refine WL.val (R_assign rfl) rfl rfl ?_
    refine WL.nil ?_
    refine WQ.thenC ?_
    refine WC.ret ?_
    refine WQ.thenR ?_
    have hS0 := hS
    obtain rfl := Option.some.inj h
    exact ret_1 rfl rfl ⟨_, rfl, hS.bel, rfl⟩
  · have h := ifF hb123130 h
    refine WC.skip ?_
    refine WQ.thenC ?_
    refine WC.seq ?_
    refine WC.reg ?_
    refine WL.val (R_move rfl) rfl rfl ?_
    refine WL.lit [.slice A2 p1.length c3] u62 rfl (by kernel_rfl) hS rfl ?_
    intro b123131 w hS
    refine WL.lit [.slice none 0 0] u68 rfl (by kernel_rfl) hS rfl ?_
    intro b123132 w hS
    refine WL.val (R_build (cells := #[.slice (some ⟨b123131, 0, none⟩) 1 1, .slice (some ⟨b123132, 0, none⟩) 1 1]) rfl (by kernel_rfl)) rfl rfl ?_
    refine WL.alloc _ z70 rfl hS rfl ?_
    intro b123133 w hS
    refine WL.storeB 0 [.slice (some ⟨b123131, 0, none⟩) 1 1, .slice (some ⟨b123132, 0, none⟩) 1 1] g70 hS rfl rfl rfl rfl rfl rfl rfl [.slice (some ⟨b123131, 0, none⟩) 1 1, .slice (some ⟨b123132, 0, none⟩) 1 1] rfl ?_
    intro w hS
    refine WL.nil ?_
    refine WQ.thenC ?_
    refine WC.seq ?_
    refine WC.seq ?_
    refine WC.reg ?_
    refine WL.val (R_loadA g70 rfl rfl (hS.cells 0 (o := 0) (m := 2) rfl rfl)) rfl rfl ?_
    have hS := hS.litRow (R := (RSl RF)) 2 rfl [p1] 1 rfl (by decide) (fun M2 hs2 => (Elems.step hs2 (show Elems (RSl RF) (Mx M _) _ _ _ from ⟨[_], _, rfl, ⟨A2, c3, rfl, (hS.sl 0 rfl).1, (hS.sl 0 rfl).2⟩, rfl⟩)))
    have hS := hS.freeze 2 rfl
    have hS := hS.litRow (R := (RSl (RI .i64))) 1 rfl [[]] 1 rfl (by decide) (fun M2 hs2 => ⟨[_], _, rfl, ⟨none, 0, rfl, Nat.le_refl _, Sl.nil⟩, rfl⟩)
    have hS := hS.freeze 1 rfl
    obtain ⟨r123134, hr123135, h⟩ := bindS h
    refine WL.call e30 rfl rfl hS (bins_Right_ok (hS).mx_lt k (⟨[p1], [[]]⟩ : Bins) (hS.sl 1 rfl) (hS.sl 0 rfl) _ hr123135) rfl ?_
    intro v w hB hS hP
    obtain ⟨rfl⟩ := hP
    refine WL.val (R_not rfl) rfl rfl ?_
    refine WL.nil ?_
    refine WQ.thenC ?_
    refine WC.cond rfl (fun hb123136 => ?_) (fun hb123136 => ?_)
    · have h := ifT hb123136 h
      refine WC.seq ?_
      refine WC.reg ?_
      refine WL.val (R_loadA g70 rfl rfl (hS.cells 0 (o := 0) (m := 2) rfl rfl)) rfl rfl ?_
      refine WL.val (R_move rfl) rfl rfl ?_
      refine WL.lit [.float .f64 p5] u65 rfl (by kernel_rfl) hS rfl ?_
      intro b123137 w hS
      have hS := hS.litRow (R := RF) 0 rfl [p5] 1 rfl (by decide) (fun M2 hs2 => ⟨[_], _, rfl, rfl, rfl⟩)
      have hS := hS.freeze 0 rfl
      obtain ⟨⟨r123138, r123139⟩, hr123140, h⟩ := bindS h
      try dsimp only at h
      have hS0 := hS
      refine WL.call e31 rfl rfl hS (bins_Codes_ok (hS).mx_lt k (⟨[p1], [[]]⟩ : Bins) [p5] (hS.sl 2 rfl) (hS.sl 1 rfl) (hS.sl 0 rfl) _ _ hr123140) rfl ?_
      intro v w hB hS hP
      obtain ⟨A123141, n123142, c123143, rfl, ho123144⟩ := hP
      obtain rfl := Row.len ho123144
      have hS := hS0.ofRow hB ho123144
      refine WL.val (R_move rfl) rfl rfl ?_
      refine WL.val (R_extract rfl rfl) rfl rfl ?_
      refine WL.val (R_extract rfl rfl) rfl rfl ?_
      refine WL.val (R_assign rfl) rfl rfl ?_
      refine WL.val (R_assign rfl) rfl rfl ?_
      refine WL.nil ?_
      refine WQ.thenC ?_
      refine WC.seq ?_
      refine WC.reg ?_
      refine WL.val (R_move rfl) rfl rfl ?_
      refine WL.val (R_cmp rfl rfl rfl) rfl rfl ?_
      refine WL.val (R_assign rfl) rfl rfl ?_
      refine WL.nil ?_
      refine WQ.thenC ?_
      refine WC.ret ?_
      refine WQ.thenR ?_
      have hS0 := hS
      obtain rfl := Option.some.inj h
      exact ret_1 rfl rfl ⟨_, rfl, hS.bel, rfl⟩
    · have h := ifF hb123136 h
      refine WC.skip ?_
      refine WQ.thenC ?_
      refine WC.seq ?_
      refine WC.reg ?_
      refine WL.val (R_loadA g70 rfl rfl (hS.cells 0 (o := 0) (m := 2) rfl rfl)) rfl rfl ?_
      refine WL.val (R_move rfl) rfl rfl ?_
      refine WL.lit [.float .f64 p5] u65 rfl (by kernel_rfl) hS rfl ?_
      intro b123145 w hS
      have hS := hS.litRow (R := RF) 0 rfl [p5] 1 rfl (by decide) (fun M2 hs2 => ⟨[_], _, rfl, rfl, rfl⟩)
      have hS := hS.freeze 0 rfl
      obtain ⟨⟨r123146, r123147⟩, hr123148, h⟩ := bindS h
      try dsimp only at h
      have hS0 := hS
      refine WL.call e31 rfl rfl hS (bins_Codes_ok (hS).mx_lt k (⟨[p1], [[]]⟩ : Bins) [p5] (hS.sl 2 rfl) (hS.sl 1 rfl) (hS.sl 0 rfl) _ _ hr123148) rfl ?_
      intro v w hB hS hP
      obtain ⟨A123149, n123150, c123151, rfl, ho123152⟩ := hP
      obtain rfl := Row.len ho123152
      have hS := hS0.ofRow hB ho123152
      refine WL.val (R_move rfl) rfl rfl ?_
      refine WL.val (R_extract rfl rfl) rfl rfl ?_
      refine WL.val (R_extract rfl rfl) rfl rfl ?_
      refine WL.val (R_assign rfl) rfl rfl ?_
      refine WL.val (R_assign rfl) rfl rfl ?_
      refine WL.nil ?_
      refine WQ.thenC ?_
      refine WC.seq ?_
      refine WC.reg ?_
      refine WL.val (R_loadA g70 rfl rfl (hS.cells 1 (o := 0) (m := 2) rfl rfl)) rfl rfl ?_
      refine WL.val (R_move rfl) rfl rfl ?_
      refine WL.lit [.float .f64 p6] u65 rfl (by kernel_rfl) hS rfl ?_
      intro b123153 w hS
      have hS := hS.litRow (R := RF) 0 rfl [p6] 1 rfl (by decide) (fun M2 hs2 => ⟨[_], _, rfl, rfl, rfl⟩)
      have hS := hS.freeze 0 rfl
      obtain ⟨⟨r123154, r123155⟩, hr123156, h⟩ := bindS h
      try dsimp only at h
      have hS0 := hS
      refine WL.call e31 rfl rfl hS (bins_Codes_ok (hS).mx_lt k (⟨[p1], [[]]⟩ : Bins) [p6] (hS.sl 3 rfl) (hS.sl 2 rfl) (hS.sl 0 rfl) _ _ hr123156) rfl ?_
      intro v w hB hS hP
      obtain ⟨A123157, n123158, c123159, rfl, ho123160⟩ := hP
      obtain rfl := Row.len ho123160
      have hS := hS0.ofRow hB ho123160
      refine WL.val (R_move rfl) rfl rfl ?_
      refine WL.val (R_extract rfl rfl) rfl rfl ?_
      refine WL.val (R_extract rfl rfl) rfl rfl ?_
      refine WL.val (R_assign rfl) rfl rfl ?_
      refine WL.val (R_assign rfl) rfl rfl ?_
      refine WL.nil ?_
      refine WQ.thenC ?_
      obtain ⟨o123165, h123166, h123167⟩ := bindS h
      refine WC.seqM (fun env w => Fl.go () = o123165 ∧ env = [(0, .slice A2 p1.length c3), (1, .float .f64 p5), (2, .float .f64 p6), (10, .slice A123149 r123146.length c123151), (12, .slice A123157 r123154.length c123159)] ∧ Sta w0 M [Row RCode 76 (.slice A123149 r123146.length c123151) r123146, Row RCode 76 (.slice A123157 r123154.length c123159) r123154] [FSl RF A2 c3 p1] w) ?_ ?_
      · have h := h123166
        refine WC.seq ?_
        refine WC.reg ?_
        refine WL.val (R_move rfl) rfl rfl ?_
        refine WL.val (R_cmp rfl rfl rfl) rfl rfl ?_
        refine WL.val (R_move rfl) rfl rfl ?_
        rcases boolS h with ⟨hb123168, h⟩ | ⟨hb123168, h⟩
        · refine WL.gskip rfl rfl rfl hb123168 rfl ?_
          refine WL.gskip rfl rfl rfl hb123168 rfl ?_
          refine WL.val (R_pickTb rfl hb123168 rfl) rfl rfl ?_
          refine WL.val (R_move rfl) rfl rfl ?_
          refine WL.gskip rfl rfl rfl rfl rfl ?_
          refine WL.gskip rfl rfl rfl rfl rfl ?_
          refine WL.gskip rfl rfl rfl rfl rfl ?_
          refine WL.val (R_pickTb rfl rfl rfl) rfl rfl ?_
          refine WL.val (R_move rfl) rfl rfl ?_
          refine WL.gskip rfl rfl rfl rfl rfl ?_
          refine WL.gskip rfl rfl rfl rfl rfl ?_
          refine WL.gskip rfl rfl rfl rfl rfl ?_
          refine WL.val (R_pickTb rfl rfl rfl) rfl rfl ?_
          refine WL.nil ?_
          refine WQ.thenC ?_
          refine WC.condT rfl ?_
          refine WC.seq ?_
          refine WC.reg ?_
          refine WL.val (R_assign rfl) rfl rfl ?_
          refine WL.nil ?_
          refine WQ.thenC ?_
          refine WC.ret ?_
          refine WQ.thenR ?_
          obtain ⟨_, hr, rfl⟩ := mapS h
          have h := hr.trans h123167
          have hS0 := hS
          obtain rfl := Option.some.inj h
          exact ret_1 rfl rfl ⟨_, rfl, hS.bel, rfl⟩
        · refine WL.gvalb rfl rfl rfl hb123168 (R_move rfl) rfl rfl ?_
          refine WL.gvalb rfl rfl rfl hb123168 (R_cmp rfl rfl rfl) rfl rfl ?_
          refine WL.val (R_pickFb rfl hb123168 rfl) rfl rfl ?_
          refine WL.val (R_move rfl) rfl rfl ?_
          rcases boolS h with ⟨hb123169, h⟩ | ⟨hb123169, h⟩
          · refine WL.gskip rfl rfl rfl hb123169 rfl ?_
            refine WL.gskip rfl rfl rfl hb123169 rfl ?_
            refine WL.gskip rfl rfl rfl hb123169 rfl ?_
            refine WL.val (R_pickTb rfl hb123169 rfl) rfl rfl ?_
            refine WL.val (R_move rfl) rfl rfl ?_
            refine WL.gskip rfl rfl rfl rfl rfl ?_
            refine WL.gskip rfl rfl rfl rfl rfl ?_
            refine WL.gskip rfl rfl rfl rfl rfl ?_
            refine WL.val (R_pickTb rfl rfl rfl) rfl rfl ?_
            refine WL.nil ?_
            refine WQ.thenC ?_
            refine WC.condT rfl ?_
            refine WC.seq ?_
            refine WC.reg ?_
            refine WL.val (R_assign rfl) rfl rfl ?_
            refine WL.nil ?_
            refine WQ.thenC ?_
            refine WC.ret ?_
            refine WQ.thenR ?_
            obtain ⟨_, hr, rfl⟩ := mapS h
            have h := hr.trans h123167
            have hS0 := hS
            obtain rfl := Option.some.inj h
            exact ret_1 rfl rfl ⟨_, rfl, hS.bel, rfl⟩
          · refine WL.gvalb rfl rfl rfl hb123169 (R_move rfl) rfl rfl ?_
            refine WL.gvalb rfl rfl rfl hb123169 (R_lenS u72 rfl) rfl rfl ?_
            refine WL.gvalb rfl rfl rfl hb123169 (R_cmp rfl rfl rfl) rfl rfl ?_
            refine WL.val (R_pickFb rfl hb123169 rfl) rfl rfl ?_
            refine WL.val (R_move rfl) rfl rfl ?_
            rcases boolS h with ⟨hb123170, h⟩ | ⟨hb123170, h⟩
            · refine WL.gskip rfl rfl rfl hb123170 rfl ?_
              refine WL.gskip rfl rfl rfl hb123170 rfl ?_
              refine WL.gskip rfl rfl rfl hb123170 rfl ?_
              refine WL.val (R_pickTb rfl hb123170 rfl) rfl rfl ?_
              refine WL.nil ?_
              refine WQ.thenC ?_
              refine WC.condT rfl ?_
              refine WC.seq ?_
              refine WC.reg ?_
              refine WL.val (R_assign rfl) rfl rfl ?_
              refine WL.nil ?_
              refine WQ.thenC ?_
              refine WC.ret ?_
              refine WQ.thenR ?_
              obtain ⟨_, hr, rfl⟩ := mapS h
              have h := hr.trans h123167
              have hS0 := hS
              obtain rfl := Option.some.inj h
              exact ret_1 rfl rfl ⟨_, rfl, hS.bel, rfl⟩
            · refine WL.gvalb rfl rfl rfl hb123170 (R_move rfl) rfl rfl ?_
              refine WL.gvalb rfl rfl rfl hb123170 (R_lenS u72 rfl) rfl rfl ?_
              refine WL.gvalb rfl rfl rfl hb123170 (R_cmp rfl rfl rfl) rfl rfl ?_
              refine WL.val (R_pickFb rfl hb123170 rfl) rfl rfl ?_
              refine WL.nil ?_
              refine WQ.thenC ?_
              refine WC.cond rfl (fun hb123171 => ?_) (fun hb123171 => ?_)
              · have h := ifT hb123171 h
                refine WC.seq ?_
                refine WC.reg ?_
                refine WL.val (R_assign rfl) rfl rfl ?_
                refine WL.nil ?_
                refine WQ.thenC ?_
                refine WC.ret ?_
                refine WQ.thenR ?_
                obtain ⟨_, hr, rfl⟩ := mapS h
                have h := hr.trans h123167
                have hS0 := hS
                obtain rfl := Option.some.inj h
                exact ret_1 rfl rfl ⟨_, rfl, hS.bel, rfl⟩
              · have h := ifF hb123171 h
                refine WC.skip ?_
                have hS := hS.pick [1, 0] [4] rfl
                exact WQ.toJ ⟨Option.some.inj h, rfl, hS⟩ ⟨rfl, rfl, rfl, rfl, rfl, trivial⟩
      · rintro _ w ⟨rfl, rfl, hS⟩
        have h := h123167
        try dsimp only at h
        obtain ⟨o123196, h123197, h123198⟩ := bindS h
        refine WC.seqM (fun env w => Fl.go () = o123196 ∧ env = [(0, .slice A2 p1.length c3), (1, .float .f64 p5), (2, .float .f64 p6), (10, .slice A123149 r123146.length c123151), (12, .slice A123157 r123154.length c123159)] ∧ Sta w0 M [Row RCode 76 (.slice A123149 r123146.length c123151) r123146, Row RCode 76 (.slice A123157 r123154.length c123159) r123154] [FSl RF A2 c3 p1] w) ?_ ?_
        · have h := h123197
          obtain ⟨o123201, h123202, h123203⟩ := bindS h
          refine WC.seqM (fun env w => ∃ (y123200 : Bool), y123200 = o123201 ∧ env = [(0, .slice A2 p1.length c3), (1, .float .f64 p5), (2, .float .f64 p6), (10, .slice A123149 r123146.length c123151), (12, .slice A123157 r123154.length c123159), (70, .bool y123200)] ∧ Sta w0 M [Row RCode 76 (.slice A123149 r123146.length c123151) r123146, Row RCode 76 (.slice A123157 r123154.length c123159) r123154] [FSl RF A2 c3 p1] w) ?_ ?_
          · have h := h123202
            refine WC.reg ?_
            refine WL.val (R_move rfl) rfl rfl ?_
            refine WL.val (R_move rfl) rfl rfl ?_
            refine WL.val (R_cmpF rfl rfl rfl) rfl rfl ?_
            refine WL.val (R_move rfl) rfl rfl ?_
            rcases boolS h with ⟨hb123204, h⟩ | ⟨hb123204, h⟩
            · refine WL.gskip rfl rfl rfl hb123204 rfl ?_
              refine WL.gskip rfl rfl rfl hb123204 rfl ?_
              refine WL.gskip rfl rfl rfl hb123204 rfl ?_
              refine WL.val (R_pickTb rfl hb123204 rfl) rfl rfl ?_
              refine WL.nil ?_
              have hS := hS.pick [0, 1] [0] rfl
              exact WQ.toJ ⟨true, Option.some.inj h, rfl, hS⟩ ⟨rfl, rfl, rfl, rfl, rfl, rfl, trivial⟩
            · refine WL.gvalb rfl rfl rfl hb123204 (R_move rfl) rfl rfl ?_
              refine WL.gvalb rfl rfl rfl hb123204 (R_move rfl) rfl rfl ?_
              refine WL.gvalb rfl rfl rfl hb123204 (R_cmpF rfl rfl rfl) rfl rfl ?_
              refine WL.val (R_pickFb rfl hb123204 rfl) rfl rfl ?_
              refine WL.nil ?_
              have hS := hS.pick [0, 1] [0] rfl
              exact WQ.toJ ⟨(cmpF .neq p6 p6), Option.some.inj h, rfl, hS⟩ ⟨rfl, rfl, rfl, rfl, rfl, rfl, trivial⟩
          · rintro _ w ⟨y123200, rfl, rfl, hS⟩
            have h := h123203
            try dsimp only at h
            refine WC.cond rfl (fun hb123205 => ?_) (fun hb123205 => ?_)
            · have h := ifT hb123205 h
              refine WC.seq ?_
              refine WC.reg ?_
              refine WL.val (R_move rfl) rfl rfl ?_
              obtain ⟨x123206, hx123207, h⟩ := bindS h
              obtain ⟨ad123208, cs123209, hA123210, hq123211, hK123212, hc123213⟩ := hS.rget 0 rfl (rdS hx123207).2.2
              obtain rfl := hK123212
              refine WL.val (R_indexAddr u72 z76 rfl rfl hA123210 (rdS hx123207).1 hq123211) rfl rfl ?_
              refine WL.val (R_fieldAddr o76_2 rfl) rfl rfl ?_
              refine WL.val (R_load1 g4 rfl (hc123213 2 _ rfl)) rfl rfl ?_
              refine WL.val (R_move rfl) rfl rfl ?_
              refine WL.val (R_move rfl) rfl rfl ?_
              refine WL.val (R_cmpF rfl rfl rfl) rfl rfl ?_
              refine WL.val (R_eqB u4 rfl rfl) rfl rfl ?_
              refine WL.val (R_move rfl) rfl rfl ?_
              rcases boolS h with ⟨hb123214, h⟩ | ⟨hb123214, h⟩
              · refine WL.gvalb rfl rfl rfl hb123214 (R_move rfl) rfl rfl ?_
                obtain ⟨x123215, hx123216, h⟩ := bindS h
                obtain ⟨ad123217, cs123218, hA123219, hq123220, hK123221, hc123222⟩ := hS.rget 1 rfl (rdS hx123216).2.2
                obtain rfl := hK123221
                refine WL.gvalb rfl rfl rfl hb123214 (R_indexAddr u72 z76 rfl rfl hA123219 (rdS hx123216).1 hq123220) rfl rfl ?_
                refine WL.gvalb rfl rfl rfl hb123214 (R_fieldAddr o76_2 rfl) rfl rfl ?_
                refine WL.gvalb rfl rfl rfl hb123214 (R_load1 g4 rfl (hc123222 2 _ rfl)) rfl rfl ?_
                refine WL.gvalb rfl rfl rfl hb123214 (R_move rfl) rfl rfl ?_
                refine WL.gvalb rfl rfl rfl hb123214 (R_move rfl) rfl rfl ?_
                refine WL.gvalb rfl rfl rfl hb123214 (R_cmpF rfl rfl rfl) rfl rfl ?_
                refine WL.gvalb rfl rfl rfl hb123214 (R_eqB u4 rfl rfl) rfl rfl ?_
                refine WL.val (R_pickTb rfl hb123214 rfl) rfl rfl ?_
                refine WL.val (R_assign rfl) rfl rfl ?_
                refine WL.nil ?_
                refine WQ.thenC ?_
                refine WC.ret ?_
                refine WQ.thenR ?_
                obtain ⟨_, hr, rfl⟩ := mapS h
                have h := hr.trans h123198
                have hS0 := hS
                obtain rfl := Option.some.inj h
                exact ret_1 rfl rfl ⟨_, rfl, hS.bel, rfl⟩
              · refine WL.gskip rfl rfl rfl hb123214 rfl ?_
                refine WL.gskip rfl rfl rfl hb123214 rfl ?_
                refine WL.gskip rfl rfl rfl hb123214 rfl ?_
                refine WL.gskip rfl rfl rfl hb123214 rfl ?_
                refine WL.gskip rfl rfl rfl hb123214 rfl ?_
                refine WL.gskip rfl rfl rfl hb123214 rfl ?_
                refine WL.gskip rfl rfl rfl hb123214 rfl ?_
                refine WL.gskip rfl rfl rfl hb123214 rfl ?_
                refine WL.val (R_pickFb rfl hb123214 rfl) rfl rfl ?_
                refine WL.val (R_assign rfl) rfl rfl ?_
                refine WL.nil ?_
                refine WQ.thenC ?_
                refine WC.ret ?_
                refine WQ.thenR ?_
                obtain ⟨_, hr, rfl⟩ := mapS h
                have h := hr.trans h123198
                have hS0 := hS
                obtain rfl := Option.some.inj h
                exact ret_1 rfl rfl ⟨_, rfl, hS.bel, rfl⟩
            · have h := ifF hb123205 h
              refine WC.skip ?_
              have hS := hS.pick [0, 1] [0] rfl
              exact WQ.toJ ⟨Option.some.inj h, rfl, hS⟩ ⟨rfl, rfl, rfl, rfl, rfl, trivial⟩
        · rintro _ w ⟨rfl, rfl, hS⟩
          have h := h123198
          try dsimp only at h
          obtain ⟨o123260, h123261, h123262⟩ := bindS h
          refine WC.seqM (fun env w => Fl.go () = o123260 ∧ env = [(1, .float .f64 p5), (2, .float .f64 p6), (10, .slice A123149 r123146.length c123151), (12, .slice A123157 r123154.length c123159)] ∧ Sta w0 M [Row RCode 76 (.slice A123149 r123146.length c123151) r123146, Row RCode 76 (.slice A123157 r123154.length c123159) r123154] [] w) ?_ ?_
          · have h := h123261
            refine WC.seq ?_
            refine WC.reg ?_
            refine WL.val (R_assign rfl) rfl rfl ?_
            refine WL.nil ?_
            refine WQ.thenC ?_
            refine WC.block ?_
            have hS := hS.pick [0, 1] [0] rfl
            refine WC.loopJ (fun m env w => ∃ (y123281 : Int), env = [(0, .slice A2 p1.length c3), (1, .float .f64 p5), (2, .float .f64 p6), (10, .slice A123149 r123146.length c123151), (12, .slice A123157 r123154.length c123159), (14, .int .i64 y123281)] ∧ Sta w0 M [Row RCode 76 (.slice A123149 r123146.length c123151) r123146, Row RCode 76 (.slice A123157 r123154.length c123159) r123154] [FSl RF A2 c3 p1] w ∧ thicketlaw20_BinsRanks_l0 k p1 r123146 p5 m y123281 = some o123260) k ⟨(0 : Int), rfl, hS, h⟩ ⟨rfl, rfl, rfl, rfl, rfl, rfl, trivial⟩ (fun env w hI => ?_) (fun m env w hI => ?_)
            · obtain ⟨y123281, rfl, hS, h⟩ := hI
              rw [thicketlaw20_BinsRanks_l0] at h
              cases h
            · obtain ⟨y123281, rfl, hS, h⟩ := hI
              rw [thicketlaw20_BinsRanks_l0] at h
              refine WC.seq ?_
              refine WC.seq ?_
              refine WC.reg ?_
              refine WL.val (R_move rfl) rfl rfl ?_
              refine WL.val (R_move rfl) rfl rfl ?_
              refine WL.val (R_lenS u65 rfl) rfl rfl ?_
              refine WL.val (R_cmp rfl rfl rfl) rfl rfl ?_
              refine WL.nil ?_
              refine WQ.thenC ?_
              refine WC.cond rfl (fun hb123300 => ?_) (fun hb123300 => ?_)
              · have h := ifT hb123300 h
                refine WC.skip ?_
                refine WQ.thenC ?_
                refine WC.seq ?_
                refine WC.block ?_
                refine WC.seq ?_
                refine WC.draw fol (by kernel_rfl) hS ?_
                refine QL.val (fun _ hw => R_move rfl) rfl ?_
                refine QL.val (fun _ hw => R_move rfl) rfl ?_
                refine QL.val (fun _ hw => R_move rfl) rfl ?_
                obtain ⟨x123301, hx123302, h⟩ := bindS h
                obtain ⟨ad123303, cs123304, hA123305, hq123306, hK123307, hc123308⟩ := hS.sget 0 rfl (rdS hx123302).2.2
                obtain rfl := hK123307
                refine QL.val (fun _ hw => R_indexAddr u65 z54 rfl rfl hA123305 (rdS hx123302).1 hq123306) rfl ?_
                refine QL.val (fun _ hw => R_load1 g54 rfl (lat hw (hc123308 0 _ rfl))) rfl ?_
                refine QL.val (fun _ hw => R_cmpF rfl rfl rfl) rfl ?_
                refine QL.val (fun _ hw => R_move rfl) rfl ?_
                obtain ⟨x123309, hx123310, h⟩ := bindS h
                obtain ⟨ad123311, cs123312, hA123313, hq123314, hK123315, hc123316⟩ := hS.rget 0 rfl (rdS hx123310).2.2
                obtain rfl := hK123315
                refine QL.val (fun _ hw => R_indexAddr u72 z76 rfl rfl hA123313 (rdS hx123310).1 hq123314) rfl ?_
                refine QL.val (fun _ hw => R_fieldAddr o76_0 rfl) rfl ?_
                refine QL.val (fun _ hw => R_load1 g3 rfl (lat hw (hc123316 0 _ rfl))) rfl ?_
                refine QL.val (fun _ hw => R_move rfl) rfl ?_
                refine QL.val (fun _ hw => R_cmp rfl rfl rfl) rfl ?_
                refine QL.val (fun _ hw => R_neB u4 rfl rfl) rfl ?_
                refine QL.last (fun w hb _ => ?_)
                have hS := hS.ext hb
                refine WQ.thenC ?_
                refine WC.cond rfl (fun hb123317 => ?_) (fun hb123317 => ?_)
                · have h := ifT hb123317 h
                  refine WC.seq ?_
                  refine WC.reg ?_
                  refine WL.val (R_assign rfl) rfl rfl ?_
                  refine WL.nil ?_
                  refine WQ.thenC ?_
                  refine WC.ret ?_
                  refine WQ.blockR ?_
                  refine WQ.thenR ?_
                  refine WQ.thenR ?_
                  refine WQ.blockR ?_
                  refine WQ.thenR ?_
                  obtain ⟨_, hr, rfl⟩ := mapS h
                  have h := hr.trans h123262
                  have hS0 := hS
                  obtain rfl := Option.some.inj h
                  exact ret_1 rfl rfl ⟨_, rfl, hS.bel, rfl⟩
                · have h := ifF hb123317 h
                  refine WC.skip ?_
                  refine WQ.blockN ?_
                  refine WQ.thenC ?_
                  refine WC.reg ?_
                  refine WL.val (R_move rfl) rfl rfl ?_
                  refine WL.val (R_ar rfl rfl rfl) rfl rfl ?_
                  refine WL.val (R_assign rfl) rfl rfl ?_
                  refine WL.nil ?_
                  have hS := hS.pick [0, 1] [0] rfl
                  exact WQ.toJ ⟨(IntKind.i64.wrap (y123281 + (1 : Int))), rfl, hS, h⟩ ⟨rfl, rfl, rfl, rfl, rfl, rfl, trivial⟩
              · have h := ifF hb123300 h
                refine WC.exit ?_
                refine WQ.thenE ?_
                refine WQ.thenE ?_
                refine WQ.blockE ?_
                have hS := hS.pick [0, 1] [] rfl
                exact WQ.toJ ⟨Option.some.inj h, rfl, hS⟩ ⟨rfl, rfl, rfl, rfl, trivial⟩
          · rintro _ w ⟨rfl, rfl, hS⟩
            have h := h123262
            try dsimp only at h
            refine WC.seq ?_
            refine WC.draw fol (by kernel_rfl) hS ?_
            refine QL.val (fun _ hw => R_move rfl) rfl ?_
            refine QL.val (fun _ hw => R_move rfl) rfl ?_
            refine QL.val (fun _ hw => R_cmpF rfl rfl rfl) rfl ?_
            refine QL.val (fun _ hw => R_not rfl) rfl ?_
            refine QL.val (fun _ hw => R_move rfl) rfl ?_
            rcases boolS h with ⟨hb123318, h⟩ | ⟨hb123318, h⟩
            · refine QL.gskip rfl rfl rfl hb123318 rfl ?_
              refine QL.gskip rfl rfl rfl hb123318 rfl ?_
              refine QL.gskip rfl rfl rfl hb123318 rfl ?_
              refine QL.gskip rfl rfl rfl hb123318 rfl ?_
              refine QL.gskip rfl rfl rfl hb123318 rfl ?_
              refine QL.gskip rfl rfl rfl hb123318 rfl ?_
              refine QL.gskip rfl rfl rfl hb123318 rfl ?_
              refine QL.gskip rfl rfl rfl hb123318 rfl ?_
              refine QL.gskip rfl rfl rfl hb123318 rfl ?_
              refine QL.val (fun _ hw => R_pickTb rfl hb123318 rfl) rfl ?_
              refine QL.val (fun _ hw => R_assign rfl) rfl ?_
              refine QL.last (fun w hb _ => ?_)
              have hS := hS.ext hb
              refine WQ.thenC ?_
              refine WC.ret ?_
              have hS0 := hS
              obtain rfl := Option.some.inj h
              exact ret_1 rfl rfl ⟨_, rfl, hS.bel, rfl⟩
            · refine QL.gvalb rfl rfl rfl hb123318 (fun _ hw => R_move rfl) rfl ?_
              obtain ⟨x123319, hx123320, h⟩ := bindS h
              obtain ⟨ad123321, cs123322, hA123323, hq123324, hK123325, hc123326⟩ := hS.rget 0 rfl (rdS hx123320).2.2
              obtain rfl := hK123325
              refine QL.gvalb rfl rfl rfl hb123318 (fun _ hw => R_indexAddr u72 z76 rfl rfl hA123323 (rdS hx123320).1 hq123324) rfl ?_
              refine QL.gvalb rfl rfl rfl hb123318 (fun _ hw => R_fieldAddr o76_0 rfl) rfl ?_
              refine QL.gvalb rfl rfl rfl hb123318 (fun _ hw => R_load1 g3 rfl (lat hw (hc123326 0 _ rfl))) rfl ?_
              refine QL.gvalb rfl rfl rfl hb123318 (fun _ hw => R_move rfl) rfl ?_
              obtain ⟨x123327, hx123328, h⟩ := bindS h
              obtain ⟨ad123329, cs123330, hA123331, hq123332, hK123333, hc123334⟩ := hS.rget 1 rfl (rdS hx123328).2.2
              obtain rfl := hK123333
              refine QL.gvalb rfl rfl rfl hb123318 (fun _ hw => R_indexAddr u72 z76 rfl rfl hA123331 (rdS hx123328).1 hq123332) rfl ?_
              refine QL.gvalb rfl rfl rfl hb123318 (fun _ hw => R_fieldAddr o76_0 rfl) rfl ?_
              refine QL.gvalb rfl rfl rfl hb123318 (fun _ hw => R_load1 g3 rfl (lat hw (hc123334 0 _ rfl))) rfl ?_
              refine QL.gvalb rfl rfl rfl hb123318 (fun _ hw => R_cmp rfl rfl rfl) rfl ?_
              refine QL.val (fun _ hw => R_pickFb rfl hb123318 rfl) rfl ?_
              refine QL.val (fun _ hw => R_assign rfl) rfl ?_
              refine QL.last (fun w hb _ => ?_)
              have hS := hS.ext hb
              refine WQ.thenC ?_
              refine WC.ret ?_
              have hS0 := hS
              obtain rfl := Option.some.inj h
              exact ret_1 rfl rfl ⟨_, rfl, hS.bel, rfl⟩

end TK

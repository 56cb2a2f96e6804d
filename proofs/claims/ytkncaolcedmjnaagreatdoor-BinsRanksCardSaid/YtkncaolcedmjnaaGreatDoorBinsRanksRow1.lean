/- The law BinsRanks answers true at every input that its statement lets in, and each argument reads afterwards as it read before; the tied card of it: the listed package-level variables hold what the text lays. -/
import Derived.Test.YtkncaolcedmjnaaGreatDoorBinsRanksLaw1
import Derived.LaidMore
import Derived.SevenTiedAt
import Derived.Test.YtkncaolcedmjnaaGreatDoorTk16
import Derived.Test.YtkncaolcedmjnaaGreatDoorCards
import Derived.Test.YtkncaolcedmjnaaGreatDoorTie
open Go Go.RowKit Go.ChangeShapes Go.WideShapes Go.ChangeAt
namespace Go.Proofs.YtkncaolcedmjnaaGreatDoor.BinsRanks
theorem own : ownKnob Tryz.prog.godebug = none := by kernel_rfl
theorem laidOut : laidOutB Tryz.prog = true := by kernel_rfl
theorem u65 : Tryz.prog.underlying 65 = some (.slice 54) := by kernel_rfl
theorem u54 : Tryz.prog.underlying 54 = some (.float .f64) := by kernel_rfl
theorem u4 : Tryz.prog.underlying 4 = some .bool := by kernel_rfl
theorem c54 : Tryz.prog.cellsOf 54 = 1 := by kernel_rfl
theorem b54 : Tryz.prog.bytesOf 54 = 8 := by kernel_rfl
theorem ps : Tryz.f8.params = #[65, 54, 54] := by kernel_rfl
theorem rt : Tryz.f8.resultTypes = #[4] := by kernel_rfl
theorem readable : ∀ t ∈ Tryz.f8.params.toList, Tryz.prog.readableRec t = true ∧ t < Tryz.prog.types.size := by
  rw [ps]
  intro t ht
  simp only [List.mem_cons, List.not_mem_nil, or_false] at ht
  rcases ht with rfl | rfl | rfl
  · exact ⟨by kernel_rfl, of_decide_eq_true (by kernel_rfl)⟩
  · exact ⟨by kernel_rfl, of_decide_eq_true (by kernel_rfl)⟩
  · exact ⟨by kernel_rfl, of_decide_eq_true (by kernel_rfl)⟩
set_option maxRecDepth 100000 in
theorem contract (H : Type) (enc : TypeId × Value → H) (W : World) (base : Nat) (args : Array Value) (ds gs : List (DataW H)) (before : List MemPlace) (X : List TypeId)
    (hval : ∀ (j : Nat) t v, Tryz.f8.params[j]? = some t → args[j]? = some v → Value.okWide Tryz.prog W .any base t v)
    (hW : DataW.Whole enc Tryz.prog Tryz.f8.params.toList Rows.binsRanksSpec.vars false W args.toList ds gs before)
    (hwt : (DataW.weightsEach Tryz.prog (Tryz.f8.params.toList ++ X) (ds ++ gs)).all (· ≤ reachBytes) = true) :
    Calls Tryz.prog 8 args W fun e W' => ∃ v, e = .returned v ∧ Rows.binsRanksSpec.post enc Tryz.prog Tryz.f8 false true false false W args v W' := by
  have hW' := hW
  obtain ⟨p, q, hA0, hV, rfl, hfz, hnd⟩ := hW
  have hA : DataW.TrodAll enc Tryz.prog W 0 (fun _ => true) true Tryz.f8.params.toList args.toList ds p := hA0
  rw [ps] at hA hval hwt
  obtain ⟨v0, vs0, d0, ds0, p0, q0, hargs, rfl, rfl, h0, r0⟩ := trodAll_cons hA
  obtain ⟨v1, vs1, d1, ds1, p1, q1, rfl, rfl, rfl, h1, r1⟩ := trodAll_cons r0
  obtain ⟨v2, vs2, d2, ds2, p2, q2, rfl, rfl, rfl, h2, r2⟩ := trodAll_cons r1
  obtain ⟨rfl, rfl, rfl⟩ := trodAll_nil r2
  obtain ⟨rfl, rfl⟩ := trodVars_none hV
  obtain rfl : args = #[v0, v1, v2] := by cases args; simp_all
  obtain ⟨x, rfl, rfl, rfl, hx⟩ := open_float u54 (hval 1 54 v1 rfl rfl) h1
  obtain ⟨y, rfl, rfl, rfl, hy⟩ := open_float u54 (hval 2 54 v2 rfl rfl) h2
  have hw0 : ∀ n ∈ d0.weights Tryz.prog 65, n ≤ reachBytes := fun n hn => by
    have := List.all_eq_true.1 hwt n (by simp [DataW.weightsEach, hn])
    simpa using this
  obtain ⟨A, c, xs, rfl, hs, hxs, hlen⟩ := TK.floats_arg u65 u54 c54 b54 (hval 0 65 _ rfl rfl) h0 hw0
  have hx' : x < 2 ^ 64 := by simpa [Lit.wf] using hx
  have hy' : y < 2 ^ 64 := by simpa [Lit.wf] using hy
  obtain ⟨k, hk⟩ := TK.ranks_true xs x y hlen hxs hx' hy'
  refine (TK.thicketlaw20_BinsRanks_ok (w0 := W) (M := fun _ => False) (fun _ h => h.elim) k xs x y hs true hk).mono ?_
  rintro e W' ⟨v, rfl, hb, rfl⟩
  exact ⟨_, rfl, TK.post_law laidOut readable u4 rt rfl hW' rfl hb⟩

/-- a world for the witness: what the door's own run leaves -/
theorem laid_met (os : Os) (args : Array Value) : laidMet Tryz.prog Rows.binsRanksRow.laid ((World.doorLaid Tryz.prog 400 os).forCall (fun _ _ => 0) ⟨#[], args, []⟩).memory :=
  laidMet_of_run' 8 (by kernel_rfl) (by kernel_rfl)
theorem reads (os : Os) {H : Type} (enc : TypeId × Value → H) : ∃ places, DataW.whole enc Tryz.prog ((World.doorLaid Tryz.prog 400 os).forCall (fun _ _ => 0) ⟨#[], #[.slice none 0 0, .float .f64 0, .float .f64 0], []⟩).memory Tryz.f8.params.toList Rows.binsRanksSpec.vars false #[Value.slice none 0 0, .float .f64 0, .float .f64 0].toList 8 = some ([.nil, .lit (.float .f64 0), .lit (.float .f64 0)], [], places) :=
  ⟨[], by kernel_rfl⟩
set_option maxRecDepth 100000 in
theorem lifted (os : Os) (started : os.Started) (H : Type) (enc : TypeId × Value → H) (F : Stop.Interp) :
    ReturnsInHanded {} Tryz.checked os 8 .any ((OpenSpec.ofChange Rows.binsRanksSpec).preRow enc Tryz.prog Tryz.f8 Rows.binsRanksRow.domain false Rows.binsRanksRow.laid) (((OpenSpec.ofChange Rows.binsRanksSpec).at F).post enc Tryz.prog Tryz.f8 false true false false) := by
  obtain ⟨places, hx⟩ := reads os enc
  refine returnsInHanded_of_row (C := Tryz.checked) (s := OpenSpec.ofChange Rows.binsRanksSpec) own started (by kernel_rfl) Tryz.func8
    (witness_row_at (enc := enc) (C := Tryz.checked) false (World.doorLaid Tryz.prog 400 os) #[.slice none 0 0, .float .f64 0, .float .f64 0] rfl (by kernel_rfl) (by kernel_rfl) (by kernel_rfl)
      (OpenSpec.preRow_of_cond 8 hx (by kernel_rfl) (fun k hk => by cases hk) (by kernel_rfl) (laid_met os _))) ?_
  intro W base args ds gs before hval hW _ _ hwt _ _ _
  exact contract H enc W base args ds gs before _ hval hW hwt
theorem said : Rows.BinsRanksSaid :=
  OpenClaim.holds_of_cond 8 Tryz.f8 rfl rfl rfl rfl rfl rfl rfl ⟨rfl, rfl, rfl, rfl, rfl⟩ rfl rfl rfl rfl rfl (by kernel_rfl) Tryz.func8 (by kernel_rfl)
    (of_decide_eq_true (by kernel_rfl)) (by unfold Func.isWrapper; first | (rw [if_pos (by decide +kernel)]; kernel_rfl) | (rw [if_neg (by decide +kernel)]; exact ⟨rfl, rfl⟩))
    (fun os started H enc _ F => by rw [OpenClaim.pre_eq_preRow]; exact lifted os started H enc F)
theorem plain (f : FuncId) (fn : Func) (hf : Tryz.pinned.checked.prog.funcNamed "thicket/thicketlaw20.BinsRanks" = some f) (hfn : Tryz.pinned.checked.prog.funcs[f]? = some fn) :
    false = Tryz.pinned.checked.prog.looks [] ∧ ∀ (j : Nat) t, fn.params[j]? = some t → Tryz.pinned.checked.prog.wantsStandIn t = false := by
  obtain rfl : f = 8 := Option.some.inj ((show Tryz.prog.funcNamed "thicket/thicketlaw20.BinsRanks" = some 8 by kernel_rfl).symm.trans hf) |>.symm
  obtain rfl : fn = Tryz.f8 := (Option.some.inj (Tryz.func8.symm.trans hfn)).symm
  refine ⟨by kernel_rfl, fun j t ht => ?_⟩
  rw [ps] at ht
  have h1 := Array.mem_of_getElem? ht
  simp only [List.mem_toArray, List.mem_cons, List.not_mem_nil, or_false] at h1
  rcases h1 with rfl | rfl | rfl
  · exact (show Tryz.prog.wantsStandIn 65 = false by kernel_rfl)
  · exact (show Tryz.prog.wantsStandIn 54 = false by kernel_rfl)
  · exact (show Tryz.prog.wantsStandIn 54 = false by kernel_rfl)
theorem card : Rows.BinsRanksCardSaid :=
  Claim7.holds_tied_plain_at .later [] _ _ _ _ said (fun _ h => by cases h) (by kernel_rfl) (fun _ h => by cases h) binsRanks_row_tie rfl ⟨rfl, rfl⟩ (by kernel_rfl) rfl plain (by kernel_rfl)
end Go.Proofs.YtkncaolcedmjnaaGreatDoor.BinsRanks
namespace Go.Proofs.YtkncaolcedmjnaaGreatDoor
theorem binsRanks_holds : Rows.BinsRanksCardSaid := BinsRanks.card
end Go.Proofs.YtkncaolcedmjnaaGreatDoor
namespace Go.Proofs.YtkncaolcedmjnaaGreatDoor.BinsRanks
end Go.Proofs.YtkncaolcedmjnaaGreatDoor.BinsRanks

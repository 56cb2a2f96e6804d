/- What the functions that the law comes to compute, as plain functions with fuel, and that calls of them return it: part 2. -/
import Derived.Test.YtkncaolcedmjnaaGreatDoorTk15
import Derived.Test.YtkncaolcedmjnaaGreatDoorProg
import Derived.Test.YtkncaolcedmjnaaGreatDoorBinsRanksG1
open Go Go.RowKit TK
open Go.Proofs
set_option maxRecDepth 100000
namespace TK
theorem limbs_Add_ok {w0 : World} {M : MSet} (hM : ∀ k, M k → k < w0.heap.size) (k : Nat) (p2728 : List Int) (p2732 : List Int) {A2729 : Option Addr} {c2730 : Nat} (hs2731 : p2728.length ≤ c2730 ∧ Sl (RI .u32) M w0 A2729 p2728) {A2733 : Option Addr} {c2734 : Nat} (hs2735 : p2732.length ≤ c2734 ∧ Sl (RI .u32) M w0 A2733 p2732) (r : List Int) (h : limbs_Add k p2728 p2732 = some r) :
    Calls Tryz.prog 180 #[.slice A2729 p2728.length c2730, .slice A2733 p2732.length c2734] w0 (Gives w0 fun v w' => ∃ (A0_0 : Option Addr), ∃ (c0_0 : Nat), v = .slice A0_0 r.length c0_0 ∧ (r.length ≤ c0_0 ∧ Sl (RI .u32) M w' A0_0 r)) := by
  have hS := Sta.init hM
  have hS := hS.arg hs2731
  have hS := hS.arg hs2735
  unfold limbs_Add at h
  refine calls_enter (n := 0) Tryz.func180 rfl [(0, .slice A2729 p2728.length c2730), (1, .slice A2733 p2732.length c2734)] rfl rfl ⟨rfl, rfl, trivial⟩ ?_
  refine WC.seq ?_
  refine WC.reg ?_
  refine WL.val (R_assign rfl) rfl rfl ?_
  refine WL.nil ?_
  refine WQ.thenC ?_
  obtain ⟨o2941, h2942, h2943⟩ := bindS h
  refine WC.seqM (fun env w => ∃ (y2937 : List Int), ∃ (y2940 : List Int), ∃ (A2935 : Option Addr), ∃ (c2936 : Nat), ∃ (A2938 : Option Addr), ∃ (c2939 : Nat), (y2937, y2940) = o2941 ∧ env = [(0, .slice A2935 y2937.length c2936), (1, .slice A2938 y2940.length c2939)] ∧ Sta w0 M [] [FSl (RI .u32) A2935 c2936 y2937, FSl (RI .u32) A2938 c2939 y2940] w) ?_ ?_
  · have h := h2942
    refine WC.seq ?_
    refine WC.reg ?_
    refine WL.val (R_move rfl) rfl rfl ?_
    refine WL.val (R_lenS u155 rfl) rfl rfl ?_
    refine WL.val (R_move rfl) rfl rfl ?_
    refine WL.val (R_lenS u155 rfl) rfl rfl ?_
    refine WL.val (R_cmp rfl rfl rfl) rfl rfl ?_
    refine WL.nil ?_
    refine WQ.thenC ?_
    refine WC.cond rfl (fun hb2944 => ?_) (fun hb2944 => ?_)
    · have h := ifT hb2944 h
      refine WC.reg ?_
      refine WL.val (R_move rfl) rfl rfl ?_
      refine WL.val (R_move rfl) rfl rfl ?_
      refine WL.val (R_assign rfl) rfl rfl ?_
      refine WL.val (R_assign rfl) rfl rfl ?_
      refine WL.nil ?_
      have hS := hS.pick [] [0, 1] rfl
      exact WQ.toJ ⟨p2732, p2728, A2733, c2734, A2729, c2730, Option.some.inj h, rfl, hS⟩ ⟨rfl, rfl, trivial⟩
    · have h := ifF hb2944 h
      refine WC.skip ?_
      have hS := hS.pick [] [1, 0] rfl
      exact WQ.toJ ⟨p2728, p2732, A2729, c2730, A2733, c2734, Option.some.inj h, rfl, hS⟩ ⟨rfl, rfl, trivial⟩
  · rintro _ w ⟨y2937, y2940, A2935, c2936, A2938, c2939, rfl, rfl, hS⟩
    have h := h2943
    try dsimp only at h
    refine WC.seq ?_
    refine WC.reg ?_
    refine WL.val (R_move rfl) rfl rfl ?_
    refine WL.val (R_lenS u155 rfl) rfl rfl ?_
    refine WL.val (R_ar rfl rfl rfl) rfl rfl ?_
    obtain ⟨hg2946, h⟩ := grdS h
    refine WL.make2 (R := (RI .u32)) (0 : Int) u155 z277 rfl rfl (fun _ _ => rfl) hS rfl rfl hg2946.1 hg2946.2.1 hg2946.2.2 rfl rfl ?_
    intro b2945 w hS
    refine WL.val (R_assign rfl) rfl rfl ?_
    refine WL.nil ?_
    refine WQ.thenC ?_
    refine WC.seq ?_
    refine WC.reg ?_
    refine WL.val (R_assign rfl) rfl rfl ?_
    refine WL.nil ?_
    refine WQ.thenC ?_
    obtain ⟨o3036, h3037, h3038⟩ := bindS h
    refine WC.seqM (fun env w => ∃ (y3034 : List Int), ∃ (y3035 : Int), ∃ (A3031 : Option Addr), ∃ (n3032 : Nat), ∃ (c3033 : Nat), (y3034, y3035) = o3036 ∧ env = [(5, .slice A3031 n3032 c3033), (6, .int .u64 y3035)] ∧ Sta w0 M [Row (RI .u32) 277 (.slice A3031 n3032 c3033) y3034] [] w) ?_ ?_
    · have h := h3037
      refine WC.seq ?_
      refine WC.reg ?_
      refine WL.val (R_move rfl) rfl rfl ?_
      refine WL.val (R_lenS u155 rfl) rfl rfl ?_
      refine WL.val (R_move rfl) rfl rfl ?_
      refine WL.nil ?_
      refine WQ.thenC ?_
      refine WC.block ?_
      have hS := hS.pick [0] [0, 1] rfl
      refine WC.loopJ (fun m env w => ∃ (y3081 : List Int), ∃ (y3082 : Int), ∃ (y3083 : Int), ∃ (A3078 : Option Addr), ∃ (n3079 : Nat), ∃ (c3080 : Nat), env = [(0, .slice A2935 y2937.length c2936), (1, .slice A2938 y2940.length c2939), (5, .slice A3078 n3079 c3080), (6, .int .u64 y3082), (20, .int .i64 (y2937.length : Int)), (21, .int .i64 y3083)] ∧ Sta w0 M [Row (RI .u32) 277 (.slice A3078 n3079 c3080) y3081] [FSl (RI .u32) A2935 c2936 y2937, FSl (RI .u32) A2938 c2939 y2940] w ∧ limbs_Add_l0 k y2937 y2940 m y3081 y3082 y3083 = some o3036) k ⟨(List.replicate (0 : Int).toNat (0 : Int)), (0 : Int), (0 : Int), (some ⟨b2945, 0, none⟩), (0 : Int).toNat, (IntKind.i64.wrap ((y2937.length : Int) + (1 : Int))).toNat, rfl, hS, h⟩ ⟨rfl, rfl, rfl, rfl, rfl, rfl, trivial⟩ (fun env w hI => ?_) (fun m env w hI => ?_)
      · obtain ⟨y3081, y3082, y3083, A3078, n3079, c3080, rfl, hS, h⟩ := hI
        rw [limbs_Add_l0] at h
        cases h
      · obtain ⟨y3081, y3082, y3083, A3078, n3079, c3080, rfl, hS, h⟩ := hI
        rw [limbs_Add_l0] at h
        obtain rfl := Row.len (hS.res 0 rfl)
        refine WC.seq ?_
        refine WC.reg ?_
        refine WL.val (R_cmp rfl rfl rfl) rfl rfl ?_
        refine WL.nil ?_
        refine WQ.thenC ?_
        refine WC.seq ?_
        refine WC.cond rfl (fun hb3123 => ?_) (fun hb3123 => ?_)
        · have h := ifT hb3123 h
          refine WC.skip ?_
          refine WQ.thenC ?_
          refine WC.seq ?_
          refine WC.block ?_
          refine WC.seq ?_
          refine WC.reg ?_
          refine WL.val (R_move rfl) rfl rfl ?_
          refine WL.val (R_assign rfl) rfl rfl ?_
          refine WL.nil ?_
          refine WQ.thenC ?_
          refine WC.seq ?_
          refine WC.reg ?_
          refine WL.val (R_move rfl) rfl rfl ?_
          refine WL.val (R_move rfl) rfl rfl ?_
          refine WL.val (R_move rfl) rfl rfl ?_
          obtain ⟨x3124, hx3125, h⟩ := bindS h
          obtain ⟨ad3126, cs3127, hA3128, hq3129, hK3130, hc3131⟩ := hS.sget 0 rfl (rdS hx3125).2.2
          obtain rfl := hK3130
          refine WL.val (R_indexAddr u155 z277 rfl rfl hA3128 (rdS hx3125).1 hq3129) rfl rfl ?_
          refine WL.val (R_load1 g277 rfl (hc3131 0 _ rfl)) rfl rfl ?_
          refine WL.val (R_convI ⟨_, u277⟩ u182 rfl) rfl rfl ?_
          refine WL.val (R_ar rfl rfl rfl) rfl rfl ?_
          refine WL.val (R_assign rfl) rfl rfl ?_
          refine WL.nil ?_
          refine WQ.thenC ?_
          obtain ⟨o3142, h3143, h3144⟩ := bindS h
          refine WC.seqM (fun env w => ∃ (y3141 : Int), y3141 = o3142 ∧ env = [(0, .slice A2935 y2937.length c2936), (1, .slice A2938 y2940.length c2939), (5, .slice A3078 y3081.length c3080), (6, .int .u64 y3141), (20, .int .i64 (y2937.length : Int)), (21, .int .i64 y3083)] ∧ Sta w0 M [Row (RI .u32) 277 (.slice A3078 y3081.length c3080) y3081] [FSl (RI .u32) A2935 c2936 y2937, FSl (RI .u32) A2938 c2939 y2940] w) ?_ ?_
          · have h := h3143
            refine WC.seq ?_
            refine WC.reg ?_
            refine WL.val (R_move rfl) rfl rfl ?_
            refine WL.val (R_move rfl) rfl rfl ?_
            refine WL.val (R_lenS u155 rfl) rfl rfl ?_
            refine WL.val (R_cmp rfl rfl rfl) rfl rfl ?_
            refine WL.nil ?_
            refine WQ.thenC ?_
            refine WC.cond rfl (fun hb3145 => ?_) (fun hb3145 => ?_)
            · have h := ifT hb3145 h
              refine WC.reg ?_
              refine WL.val (R_move rfl) rfl rfl ?_
              refine WL.val (R_move rfl) rfl rfl ?_
              refine WL.val (R_move rfl) rfl rfl ?_
              obtain ⟨x3146, hx3147, h⟩ := bindS h
              obtain ⟨ad3148, cs3149, hA3150, hq3151, hK3152, hc3153⟩ := hS.sget 1 rfl (rdS hx3147).2.2
              obtain rfl := hK3152
              refine WL.val (R_indexAddr u155 z277 rfl rfl hA3150 (rdS hx3147).1 hq3151) rfl rfl ?_
              refine WL.val (R_load1 g277 rfl (hc3153 0 _ rfl)) rfl rfl ?_
              refine WL.val (R_convI ⟨_, u277⟩ u182 rfl) rfl rfl ?_
              refine WL.val (R_ar rfl rfl rfl) rfl rfl ?_
              refine WL.val (R_assign rfl) rfl rfl ?_
              refine WL.nil ?_
              have hS := hS.pick [0] [0, 1] rfl
              exact WQ.toJ ⟨(IntKind.u64.wrap ((IntKind.u64.wrap (y3082 + (IntKind.u64.wrap x3124))) + (IntKind.u64.wrap x3146))), Option.some.inj h, rfl, hS⟩ ⟨rfl, rfl, rfl, rfl, rfl, rfl, trivial⟩
            · have h := ifF hb3145 h
              refine WC.skip ?_
              have hS := hS.pick [0] [0, 1] rfl
              exact WQ.toJ ⟨(IntKind.u64.wrap (y3082 + (IntKind.u64.wrap x3124))), Option.some.inj h, rfl, hS⟩ ⟨rfl, rfl, rfl, rfl, rfl, rfl, trivial⟩
          · rintro _ w ⟨y3141, rfl, rfl, hS⟩
            have h := h3144
            try dsimp only at h
            refine WC.seq ?_
            refine WC.reg ?_
            refine WL.val (R_move rfl) rfl rfl ?_
            refine WL.val (R_move rfl) rfl rfl ?_
            obtain ⟨r3154, hr3155, h⟩ := bindS h
            refine WL.call e177 rfl rfl hS (limbs_low_ok (hS).mx_lt y3141  _ hr3155) rfl ?_
            intro v w hB hS hP
            obtain ⟨rfl⟩ := hP
            refine WL.lit [.int .u32 r3154] u155 rfl (by kernel_rfl) hS rfl ?_
            intro b3156 w hS
            obtain ⟨hg3157, h⟩ := grdS h
            refine WL.append (R := (RI .u32)) (zs := [r3154]) 1 u155 z277 rfl rfl rfl hS rfl rfl rfl rfl (Blk.src (hS.res 0 rfl) ⟨[_], _, rfl, rfl, rfl⟩) hg3157 rfl rfl ?_
            intro A3158 c3159 w hS
            refine WL.val (R_assign rfl) rfl rfl ?_
            refine WL.nil ?_
            refine WQ.thenC ?_
            refine WC.reg ?_
            refine WL.val (R_move rfl) rfl rfl ?_
            obtain ⟨r3160, hr3161, h⟩ := bindS h
            refine WL.call e178 rfl rfl hS (limbs_high_ok (hS).mx_lt y3141  _ hr3161) rfl ?_
            intro v w hB hS hP
            obtain ⟨rfl⟩ := hP
            refine WL.val (R_assign rfl) rfl rfl ?_
            refine WL.nil ?_
            refine WQ.blockN ?_
            refine WQ.thenC ?_
            refine WC.reg ?_
            refine WL.val (R_ar rfl rfl rfl) rfl rfl ?_
            refine WL.val (R_move rfl) rfl rfl ?_
            refine WL.nil ?_
            have hS := hS.pick [1] [0, 1] rfl
            exact WQ.toJ ⟨(y3081 ++ [r3154]), r3160, (IntKind.i64.wrap (y3083 + (1 : Int))), A3158, (y3081 ++ [r3154]).length, c3159, rfl, hS, h⟩ ⟨rfl, rfl, rfl, rfl, rfl, rfl, trivial⟩
        · have h := ifF hb3123 h
          refine WC.exit ?_
          refine WQ.thenE ?_
          refine WQ.thenE ?_
          refine WQ.blockE ?_
          have hS := hS.pick [0] [] rfl
          exact WQ.toJ ⟨y3081, y3082, A3078, y3081.length, c3080, Option.some.inj h, rfl, hS⟩ ⟨rfl, rfl, trivial⟩
    · rintro _ w ⟨y3034, y3035, A3031, n3032, c3033, rfl, rfl, hS⟩
      have h := h3038
      try dsimp only at h
      obtain rfl := Row.len (hS.res 0 rfl)
      refine WC.seq ?_
      refine WC.reg ?_
      refine WL.val (R_move rfl) rfl rfl ?_
      refine WL.val (R_move rfl) rfl rfl ?_
      refine WL.val (R_convI ⟨_, u182⟩ u277 rfl) rfl rfl ?_
      refine WL.lit [.int .u32 (IntKind.u32.wrap y3035)] u155 rfl (by kernel_rfl) hS rfl ?_
      intro b3162 w hS
      obtain ⟨hg3163, h⟩ := grdS h
      refine WL.append (R := (RI .u32)) (zs := [(IntKind.u32.wrap y3035)]) 1 u155 z277 rfl rfl rfl hS rfl rfl rfl rfl (Blk.src (hS.res 0 rfl) ⟨[_], _, rfl, rfl, rfl⟩) hg3163 rfl rfl ?_
      intro A3164 c3165 w hS
      have hS := hS.freeze 1 rfl
      obtain ⟨r3166, hr3167, h⟩ := bindS h
      refine WL.call e176 rfl rfl hS (limbs_trim_ok (hS).mx_lt k (y3034 ++ [(IntKind.u32.wrap y3035)]) (hS.sl 0 rfl) _ hr3167) rfl ?_
      intro v w hB hS hP
      obtain ⟨A3168, c3169, rfl, ho3170⟩ := hP
      have hS := hS.addF (FSl (RI .u32) A3168 c3169 r3166) ho3170
      refine WL.val (R_assign rfl) rfl rfl ?_
      refine WL.nil ?_
      refine WQ.thenC ?_
      refine WC.ret ?_
      have hS0 := hS
      obtain rfl := Option.some.inj h
      exact ret_1 rfl rfl ⟨_, rfl, hS.bel, ⟨A3168, c3169, rfl, hS.out 0 rfl⟩⟩

def rules_rooms_l0 (k : Nat) (p2413 : Ensemble) : Nat → (List (List Int)) → Int → Option (List (List Int))
  | 0, _, _ => none
  | m + 1, y3853, y3854 =>
    if decide (y3854 < (p2413.base.length : Int)) = true then ((rd p2413.base y3854).bind fun x3876 =>
    (rules_amount x3876).bind fun r3884 =>
    (limbs_From k r3884).bind fun r3886 =>
    if (y3853.length + 1) * 24 ≤ 140737488355328 then (rules_rooms_l0 k p2413 m (y3853 ++ [r3886]) (IntKind.i64.wrap (y3854 + (1 : Int)))) else none) else (some y3853)

def rules_rooms_l1 (k : Nat) (p2413 : Ensemble) : Nat → (List (List Int)) → Int → Option (List (List Int))
  | 0, _, _ => none
  | m + 1, y4294, y4295 =>
    if decide (y4295 < (p2413.trees.length : Int)) = true then (((rd p2413.trees y4295).bind fun x4492 =>
    (if decide ((0 : Int) ≤ x4492.output) = true then (some (decide (x4492.output < (y4294.length : Int)))) else (some false) : Option Bool).bind fun y4505 =>
    if y4505 = true then ((rd y4294 x4492.output).bind fun x4511 =>
    (rules_Largest k x4492).bind fun r4522 =>
    (limbs_From k r4522).bind fun r4524 =>
    (limbs_Add k x4511 r4524).bind fun r4529 =>
    some (y4294.set x4492.output.toNat r4529)) else (some y4294) : Option (List (List Int))).bind fun y4488 =>
    rules_rooms_l1 k p2413 m y4488 (IntKind.i64.wrap (y4295 + (1 : Int)))) else (some y4294)

def rules_rooms (k : Nat) (p2413 : Ensemble) : Option (List (List Int)) :=
    (rules_rooms_l0 k p2413 k ([] : List (List Int)) (0 : Int) : Option (List (List Int))).bind fun y3826 =>
    (rules_rooms_l1 k p2413 k y3826 (0 : Int) : Option (List (List Int))).bind fun y4159 =>
    some y4159

theorem rules_rooms_ok {w0 : World} {M : MSet} (hM : ∀ k, M k → k < w0.heap.size) (k : Nat) (p2413 : Ensemble) {A2414 : Option Addr} {c2415 : Nat} (hs2416 : p2413.features.length ≤ c2415 ∧ Sl RStr M w0 A2414 p2413.features) {A2417 : Option Addr} {c2418 : Nat} (hs2419 : p2413.base.length ≤ c2418 ∧ Sl (RI .i64) M w0 A2417 p2413.base) {A2420 : Option Addr} {c2421 : Nat} (hs2422 : p2413.trees.length ≤ c2421 ∧ Sl RTree M w0 A2420 p2413.trees) (r : List (List Int)) (h : rules_rooms k p2413 = some r) :
    Calls Tryz.prog 126 #[.agg #[.string p2413.name, .slice A2414 p2413.features.length c2415, .int .i64 p2413.outputs, .slice A2417 p2413.base.length c2418, .slice A2420 p2413.trees.length c2421]] w0 (Gives w0 fun v w' => ∃ (Ao : Option Addr), ∃ (no co : Nat), v = .slice Ao no co ∧ (Row (RSl (RI .u32)) 155 (.slice Ao no co) r).ok w0.heap.size (Mx M [Row (RSl (RI .u32)) 155 (.slice Ao no co) r]) w') := by
  have hS := Sta.init hM
  have hS := hS.arg hs2416
  have hS := hS.arg hs2419
  have hS := hS.arg hs2422
  unfold rules_rooms at h
  refine calls_enter (n := 0) Tryz.func126 rfl [(0, .agg #[.string p2413.name, .slice A2414 p2413.features.length c2415, .int .i64 p2413.outputs, .slice A2417 p2413.base.length c2418, .slice A2420 p2413.trees.length c2421])] rfl rfl ⟨rfl, trivial⟩ ?_
  refine WC.seq ?_
  refine WC.reg ?_
  refine WL.box [.string p2413.name, .slice A2414 p2413.features.length c2415, .int .i64 p2413.outputs, .slice A2417 p2413.base.length c2418, .slice A2420 p2413.trees.length c2421] rfl rfl hS rfl ?_
  intro b3777 w hS
  refine WL.val (R_assign rfl) rfl rfl ?_
  refine WL.nil ?_
  refine WQ.thenC ?_
  refine WC.seq ?_
  refine WC.reg ?_
  refine WL.val (R_assign rfl) rfl rfl ?_
  refine WL.nil ?_
  refine WQ.thenC ?_
  obtain ⟨o3827, h3828, h3829⟩ := bindS h
  refine WC.seqM (fun env w => ∃ (y3826 : List (List Int)), ∃ (A3823 : Option Addr), ∃ (n3824 : Nat), ∃ (c3825 : Nat), y3826 = o3827 ∧ env = [(1, .pointer (some ⟨b3777, 0, none⟩)), (3, .slice A3823 n3824 c3825)] ∧ Sta w0 M [Blk b3777 [.string p2413.name, .slice A2414 p2413.features.length c2415, .int .i64 p2413.outputs, .slice A2417 p2413.base.length c2418, .slice A2420 p2413.trees.length c2421] 26, Row (RSl (RI .u32)) 155 (.slice A3823 n3824 c3825) y3826] [FSl RStr A2414 c2415 p2413.features, FSl (RI .i64) A2417 c2418 p2413.base, FSl RTree A2420 c2421 p2413.trees] w) ?_ ?_
  · have h := h3828
    refine WC.seq ?_
    refine WC.reg ?_
    refine WL.val (R_fieldB o26_3 rfl) rfl rfl ?_
    refine WL.val (R_load1 g23 rfl (hS.cell 0 rfl rfl)) rfl rfl ?_
    refine WL.val (R_lenS u23 rfl) rfl rfl ?_
    refine WL.val (R_move rfl) rfl rfl ?_
    refine WL.nil ?_
    refine WQ.thenC ?_
    refine WC.block ?_
    have hS := hS.nilRow (RSl (RI .u32)) 155
    have hS := hS.pick [1, 0] [1, 2, 0] rfl
    refine WC.loopJ (fun m env w => ∃ (y3853 : List (List Int)), ∃ (y3854 : Int), ∃ (A3850 : Option Addr), ∃ (n3851 : Nat), ∃ (c3852 : Nat), env = [(1, .pointer (some ⟨b3777, 0, none⟩)), (3, .slice A3850 n3851 c3852), (9, .slice A2417 p2413.base.length c2418), (10, .int .i64 (p2413.base.length : Int)), (11, .int .i64 y3854)] ∧ Sta w0 M [Blk b3777 [.string p2413.name, .slice A2414 p2413.features.length c2415, .int .i64 p2413.outputs, .slice A2417 p2413.base.length c2418, .slice A2420 p2413.trees.length c2421] 26, Row (RSl (RI .u32)) 155 (.slice A3850 n3851 c3852) y3853] [FSl (RI .i64) A2417 c2418 p2413.base, FSl RStr A2414 c2415 p2413.features, FSl RTree A2420 c2421 p2413.trees] w ∧ rules_rooms_l0 k p2413 m y3853 y3854 = some o3827) k ⟨([] : List (List Int)), (0 : Int), none, 0, 0, rfl, hS, h⟩ ⟨rfl, rfl, rfl, rfl, rfl, trivial⟩ (fun env w hI => ?_) (fun m env w hI => ?_)
    · obtain ⟨y3853, y3854, A3850, n3851, c3852, rfl, hS, h⟩ := hI
      rw [rules_rooms_l0] at h
      cases h
    · obtain ⟨y3853, y3854, A3850, n3851, c3852, rfl, hS, h⟩ := hI
      rw [rules_rooms_l0] at h
      obtain rfl := Row.len (hS.res 1 rfl)
      refine WC.seq ?_
      refine WC.reg ?_
      refine WL.val (R_cmp rfl rfl rfl) rfl rfl ?_
      refine WL.nil ?_
      refine WQ.thenC ?_
      refine WC.seq ?_
      refine WC.cond rfl (fun hb3875 => ?_) (fun hb3875 => ?_)
      · have h := ifT hb3875 h
        refine WC.skip ?_
        refine WQ.thenC ?_
        refine WC.seq ?_
        refine WC.block ?_
        refine WC.seq ?_
        refine WC.reg ?_
        obtain ⟨x3876, hx3877, h⟩ := bindS h
        obtain ⟨ad3878, cs3879, hA3880, hq3881, hK3882, hc3883⟩ := hS.sget 0 rfl (rdS hx3877).2.2
        obtain rfl := hK3882
        refine WL.val (R_indexAddr u23 z2 rfl rfl hA3880 (rdS hx3877).1 hq3881) rfl rfl ?_
        refine WL.val (R_load1 g2 rfl (hc3883 0 _ rfl)) rfl rfl ?_
        refine WL.val (R_assign rfl) rfl rfl ?_
        refine WL.nil ?_
        refine WQ.thenC ?_
        refine WC.reg ?_
        refine WL.val (R_move rfl) rfl rfl ?_
        refine WL.val (R_move rfl) rfl rfl ?_
        obtain ⟨r3884, hr3885, h⟩ := bindS h
        refine WL.call e179 rfl rfl hS (rules_amount_ok (hS).mx_lt x3876  _ hr3885) rfl ?_
        intro v w hB hS hP
        obtain ⟨rfl⟩ := hP
        obtain ⟨r3886, hr3887, h⟩ := bindS h
        refine WL.call e125 rfl rfl hS (limbs_From_ok (hS).mx_lt k r3884  _ hr3887) rfl ?_
        intro v w hB hS hP
        obtain ⟨A3888, c3889, rfl, ho3890⟩ := hP
        have hS := hS.addF (FSl (RI .u32) A3888 c3889 r3886) ho3890
        refine WL.lit [.slice A3888 r3886.length c3889] u202 rfl (by kernel_rfl) hS rfl ?_
        intro b3891 w hS
        obtain ⟨hg3892, h⟩ := grdS h
        refine WL.append (R := (RSl (RI .u32))) (zs := [r3886]) 2 u202 z155 rfl rfl rfl hS rfl rfl rfl rfl (Blk.src (hS.res 0 rfl) ⟨[_], _, rfl, ⟨A3888, c3889, rfl, (hS.sl 0 rfl).1, (hS.sl 0 rfl).2⟩, rfl⟩) hg3892 rfl rfl ?_
        intro A3893 c3894 w hS
        refine WL.val (R_assign rfl) rfl rfl ?_
        refine WL.nil ?_
        refine WQ.blockN ?_
        refine WQ.thenC ?_
        refine WC.reg ?_
        refine WL.val (R_ar rfl rfl rfl) rfl rfl ?_
        refine WL.val (R_move rfl) rfl rfl ?_
        refine WL.nil ?_
        have hS := hS.pick [1, 2] [1, 2, 3] rfl
        exact WQ.toJ ⟨(y3853 ++ [r3886]), (IntKind.i64.wrap (y3854 + (1 : Int))), A3893, (y3853 ++ [r3886]).length, c3894, rfl, hS, h⟩ ⟨rfl, rfl, rfl, rfl, rfl, trivial⟩
      · have h := ifF hb3875 h
        refine WC.exit ?_
        refine WQ.thenE ?_
        refine WQ.thenE ?_
        refine WQ.blockE ?_
        have hS := hS.pick [0, 1] [1, 0, 2] rfl
        exact WQ.toJ ⟨y3853, A3850, y3853.length, c3852, Option.some.inj h, rfl, hS⟩ ⟨rfl, rfl, trivial⟩
  · rintro _ w ⟨y3826, A3823, n3824, c3825, rfl, rfl, hS⟩
    have h := h3829
    try dsimp only at h
    obtain rfl := Row.len (hS.res 1 rfl)
    obtain ⟨o4160, h4161, h4162⟩ := bindS h
    refine WC.seqM (fun env w => ∃ (y4159 : List (List Int)), ∃ (A4156 : Option Addr), ∃ (n4157 : Nat), ∃ (c4158 : Nat), y4159 = o4160 ∧ env = [(3, .slice A4156 n4157 c4158)] ∧ Sta w0 M [Row (RSl (RI .u32)) 155 (.slice A4156 n4157 c4158) y4159] [] w) ?_ ?_
    · have h := h4161
      refine WC.seq ?_
      refine WC.reg ?_
      refine WL.val (R_fieldB o26_4 rfl) rfl rfl ?_
      refine WL.val (R_load1 g24 rfl (hS.cell 0 rfl rfl)) rfl rfl ?_
      refine WL.val (R_lenS u24 rfl) rfl rfl ?_
      refine WL.val (R_move rfl) rfl rfl ?_
      refine WL.nil ?_
      refine WQ.thenC ?_
      refine WC.block ?_
      have hS := hS.pick [1] [2] rfl
      refine WC.loopJ (fun m env w => ∃ (y4294 : List (List Int)), ∃ (y4295 : Int), ∃ (A4291 : Option Addr), ∃ (n4292 : Nat), ∃ (c4293 : Nat), env = [(3, .slice A4291 n4292 c4293), (23, .slice A2420 p2413.trees.length c2421), (24, .int .i64 (p2413.trees.length : Int)), (25, .int .i64 y4295)] ∧ Sta w0 M [Row (RSl (RI .u32)) 155 (.slice A4291 n4292 c4293) y4294] [FSl RTree A2420 c2421 p2413.trees] w ∧ rules_rooms_l1 k p2413 m y4294 y4295 = some o4160) k ⟨y3826, (0 : Int), A3823, y3826.length, c3825, rfl, hS, h⟩ ⟨rfl, rfl, rfl, rfl, trivial⟩ (fun env w hI => ?_) (fun m env w hI => ?_)
      · obtain ⟨y4294, y4295, A4291, n4292, c4293, rfl, hS, h⟩ := hI
        rw [rules_rooms_l1] at h
        cases h
      · obtain ⟨y4294, y4295, A4291, n4292, c4293, rfl, hS, h⟩ := hI
        rw [rules_rooms_l1] at h
        obtain rfl := Row.len (hS.res 0 rfl)
        refine WC.seq ?_
        refine WC.reg ?_
        refine WL.val (R_cmp rfl rfl rfl) rfl rfl ?_
        refine WL.nil ?_
        refine WQ.thenC ?_
        refine WC.seq ?_
        refine WC.cond rfl (fun hb4424 => ?_) (fun hb4424 => ?_)
        · have h := ifT hb4424 h
          refine WC.skip ?_
          refine WQ.thenC ?_
          obtain ⟨o4489, h4490, h4491⟩ := bindS h
          refine WC.seqM (fun env w => ∃ (y4488 : List (List Int)), ∃ (A4485 : Option Addr), ∃ (n4486 : Nat), ∃ (c4487 : Nat), y4488 = o4489 ∧ env = [(3, .slice A4485 n4486 c4487), (23, .slice A2420 p2413.trees.length c2421), (24, .int .i64 (p2413.trees.length : Int)), (25, .int .i64 y4295)] ∧ Sta w0 M [Row (RSl (RI .u32)) 155 (.slice A4485 n4486 c4487) y4488] [FSl RTree A2420 c2421 p2413.trees] w) ?_ ?_
          · have h := h4490
            refine WC.block ?_
            refine WC.seq ?_
            refine WC.reg ?_
            obtain ⟨x4492, hx4493, h⟩ := bindS h
            obtain ⟨ad4494, cs4495, hA4496, hq4497, hK4498, hc4499⟩ := hS.sget 0 rfl (rdS hx4493).2.2
            obtain ⟨A4500, c4501, rfl, hs4502⟩ := hK4498
            have hS := hS.addF (FSl RNode A4500 c4501 x4492.nodes) hs4502
            refine WL.val (R_indexAddr u24 z52 rfl rfl hA4496 (rdS hx4493).1 hq4497) rfl rfl ?_
            refine WL.val (R_loadA g52 rfl rfl hc4499) rfl rfl ?_
            refine WL.alloc _ z52 rfl hS rfl ?_
            intro b4503 w hS
            refine WL.storeB 0 [.int .i64 x4492.output, .slice A4500 x4492.nodes.length c4501] g52 hS rfl rfl rfl rfl rfl rfl rfl [.int .i64 x4492.output, .slice A4500 x4492.nodes.length c4501] rfl ?_
            intro w hS
            refine WL.nil ?_
            refine WQ.thenC ?_
            obtain ⟨o4506, h4507, h4508⟩ := bindS h
            refine WC.seqM (fun env w => ∃ (y4505 : Bool), y4505 = o4506 ∧ env = [(3, .slice A4291 y4294.length c4293), (7, .pointer (some ⟨b4503, 0, none⟩)), (23, .slice A2420 p2413.trees.length c2421), (24, .int .i64 (p2413.trees.length : Int)), (25, .int .i64 y4295), (38, .bool y4505)] ∧ Sta w0 M [Row (RSl (RI .u32)) 155 (.slice A4291 y4294.length c4293) y4294, Blk b4503 [.int .i64 x4492.output, .slice A4500 x4492.nodes.length c4501] 52] [FSl RTree A2420 c2421 p2413.trees, FSl RNode A4500 c4501 x4492.nodes] w) ?_ ?_
            · have h := h4507
              refine WC.reg ?_
              refine WL.val (R_fieldB o52_0 rfl) rfl rfl ?_
              refine WL.val (R_load1 g3 rfl (hS.cell 0 rfl rfl)) rfl rfl ?_
              refine WL.val (R_cmp rfl rfl rfl) rfl rfl ?_
              refine WL.val (R_move rfl) rfl rfl ?_
              rcases boolS h with ⟨hb4509, h⟩ | ⟨hb4509, h⟩
              · refine WL.gvalb rfl rfl rfl hb4509 (R_fieldB o52_0 rfl) rfl rfl ?_
                refine WL.gvalb rfl rfl rfl hb4509 (R_load1 g3 rfl (hS.cell 0 rfl rfl)) rfl rfl ?_
                refine WL.gvalb rfl rfl rfl hb4509 (R_move rfl) rfl rfl ?_
                refine WL.gvalb rfl rfl rfl hb4509 (R_lenS u202 rfl) rfl rfl ?_
                refine WL.gvalb rfl rfl rfl hb4509 (R_cmp rfl rfl rfl) rfl rfl ?_
                refine WL.val (R_pickTb rfl hb4509 rfl) rfl rfl ?_
                refine WL.nil ?_
                have hS := hS.pick [1, 0] [1, 0] rfl
                exact WQ.toJ ⟨decide (x4492.output < (y4294.length : Int)), Option.some.inj h, rfl, hS⟩ ⟨rfl, rfl, rfl, rfl, rfl, rfl, trivial⟩
              · refine WL.gskip rfl rfl rfl hb4509 rfl ?_
                refine WL.gskip rfl rfl rfl hb4509 rfl ?_
                refine WL.gskip rfl rfl rfl hb4509 rfl ?_
                refine WL.gskip rfl rfl rfl hb4509 rfl ?_
                refine WL.gskip rfl rfl rfl hb4509 rfl ?_
                refine WL.val (R_pickFb rfl hb4509 rfl) rfl rfl ?_
                refine WL.nil ?_
                have hS := hS.pick [1, 0] [1, 0] rfl
                exact WQ.toJ ⟨false, Option.some.inj h, rfl, hS⟩ ⟨rfl, rfl, rfl, rfl, rfl, rfl, trivial⟩
            · rintro _ w ⟨y4505, rfl, rfl, hS⟩
              have h := h4508
              try dsimp only at h
              refine WC.cond rfl (fun hb4510 => ?_) (fun hb4510 => ?_)
              · have h := ifT hb4510 h
                obtain ⟨x4511, hx4512, h⟩ := bindS h
                obtain ⟨r4522, hr4523, h⟩ := bindS h
                obtain ⟨r4524, hr4525, h⟩ := bindS h
                obtain ⟨r4529, hr4530, h⟩ := bindS h
                refine WC.held (Sta w0 M [Blk b4503 [.int .i64 x4492.output, .slice A4500 x4492.nodes.length c4501] 52] [FSl RTree A2420 c2421 p2413.trees, FSl RNode A4500 c4501 x4492.nodes]) fol hS rfl ?_
                intro w hS
                refine HL.val 0 #[true, false, false, false, false, false, false, false, false, false, false, false, false, false] rfl (by kernel_rfl) (by kernel_rfl) (by kernel_rfl) rfl rfl (hS.pick [1] [0, 1] rfl) (fun w hS => R_move rfl) ?_
                refine HL.val 1 #[true, true, false, false, false, false, false, false, false, false, false, false, false, false] rfl (by kernel_rfl) (by kernel_rfl) (by kernel_rfl) rfl rfl (hS.pick [1] [0, 1] rfl) (fun w hS => R_fieldB o52_0 rfl) ?_
                refine HL.val 2 #[true, true, true, false, false, false, false, false, false, false, false, false, false, false] rfl (by kernel_rfl) (by kernel_rfl) (by kernel_rfl) rfl rfl (hS.pick [1] [0, 1] rfl) (fun w hS => R_load1 g3 rfl (hS.cell 0 rfl rfl)) ?_
                refine HL.val 3 #[true, true, true, true, false, false, false, false, false, false, false, false, false, false] rfl (by kernel_rfl) (by kernel_rfl) (by kernel_rfl) rfl rfl (hS.pick [1] [0, 1] rfl) (fun w hS => R_move rfl) ?_
                refine HL.val 4 #[true, true, true, true, true, false, false, false, false, false, false, false, false, false] rfl (by kernel_rfl) (by kernel_rfl) (by kernel_rfl) rfl rfl (hS.pick [1] [0, 1] rfl) (fun w hS => R_fieldB o52_0 rfl) ?_
                refine HL.val 5 #[true, true, true, true, true, true, false, false, false, false, false, false, false, false] rfl (by kernel_rfl) (by kernel_rfl) (by kernel_rfl) rfl rfl (hS.pick [1] [0, 1] rfl) (fun w hS => R_load1 g3 rfl (hS.cell 0 rfl rfl)) ?_
                refine HL.val 8 #[true, true, true, true, true, true, false, false, true, false, false, false, false, false] rfl (by kernel_rfl) (by kernel_rfl) (by kernel_rfl) rfl rfl (hS.pick [1] [0, 1] rfl) (fun w hS => R_loadA g52 rfl rfl (hS.cells 0 (o := 0) (m := 2) rfl rfl)) ?_
                refine HL.all [6, 9] (by kernel_rfl) rfl ⟨?_, ?_, trivial⟩
                · refine HO.of #[true, true, true, true, true, true, true, false, true, false, false, false, false, false] rfl rfl ?_
                  obtain ⟨ad4513, cs4514, hA4515, hq4516, hK4517, hc4518⟩ := hS.rget 0 rfl (rdS hx4512).2.2
                  obtain ⟨A4519, c4520, rfl, hs4521⟩ := hK4517
                  have hS := hS.addF (FSl (RI .u32) A4519 c4520 x4511) hs4521
                  refine WL.val (R_indexAddr u202 z155 rfl rfl hA4515 (rdS hx4512).1 hq4516) rfl rfl ?_
                  refine WL.nil ?_
                  refine HL.next (hS.pick [1] [1, 2] rfl) ?_
                  refine HL.all [7, 9] (by kernel_rfl) rfl ⟨?_, ?_, trivial⟩
                  · refine HO.of #[true, true, true, true, true, true, true, true, true, false, false, false, false, false] rfl rfl ?_
                    refine WL.val (R_load1 g155 rfl (hc4518 0 _ rfl)) rfl rfl ?_
                    refine WL.nil ?_
                    refine HL.next (hS.pick [1] [1, 2] rfl) ?_
                    refine HL.all [9] (by kernel_rfl) rfl ⟨?_, trivial⟩
                    refine HO.of #[true, true, true, true, true, true, true, true, true, true, false, false, false, false] rfl rfl ?_
                    refine WL.call e181 rfl rfl hS (rules_Largest_ok (hS).mx_lt k x4492 (hS.sl 2 rfl) _ hr4523) rfl ?_
                    intro v w hB hS hP
                    obtain ⟨rfl⟩ := hP
                    refine WL.nil ?_
                    refine HL.next (hS.pick [1] [1, 2] rfl) ?_
                    refine HL.all [10] (by kernel_rfl) rfl ⟨?_, trivial⟩
                    refine HO.of #[true, true, true, true, true, true, true, true, true, true, true, false, false, false] rfl rfl ?_
                    refine WL.call e125 rfl rfl hS (limbs_From_ok (hS).mx_lt k r4522  _ hr4525) rfl ?_
                    intro v w hB hS hP
                    obtain ⟨A4526, c4527, rfl, ho4528⟩ := hP
                    have hS := hS.addF (FSl (RI .u32) A4526 c4527 r4524) ho4528
                    refine WL.nil ?_
                    refine HL.next (hS.pick [1] [2, 3] rfl) ?_
                    refine HL.all [11] (by kernel_rfl) rfl ⟨?_, trivial⟩
                    refine HO.of #[true, true, true, true, true, true, true, true, true, true, true, true, false, false] rfl rfl ?_
                    refine WL.call e180 rfl rfl hS (limbs_Add_ok (hS).mx_lt k x4511 r4524 (hS.sl 1 rfl) (hS.sl 0 rfl) _ hr4530) rfl ?_
                    intro v w hB hS hP
                    obtain ⟨A4531, c4532, rfl, ho4533⟩ := hP
                    have hS := hS.addF (FSl (RI .u32) A4531 c4532 r4529) ho4533
                    refine WL.nil ?_
                    refine HL.next (hS.pick [1] [3, 4] rfl) ?_
                    refine HL.all [12] (by kernel_rfl) rfl ⟨?_, trivial⟩
                    refine HO.of #[true, true, true, true, true, true, true, true, true, true, true, true, true, false] rfl rfl ?_
                    obtain ⟨ad4534, cs4535, hA4536, hq4537, hK4538, hc4539⟩ := hS.rget 0 rfl (rdS hx4512).2.2
                    obtain ⟨A4540, c4541, rfl, hs4542⟩ := hK4538
                    have hS := hS.addF (FSl (RI .u32) A4540 c4541 x4511) hs4542
                    refine WL.val (R_indexAddr u202 z155 rfl rfl hA4536 (rdS hx4512).1 hq4537) rfl rfl ?_
                    refine WL.nil ?_
                    refine HL.next (hS.pick [1] [4, 5] rfl) ?_
                    refine HL.all [13] (by kernel_rfl) rfl ⟨?_, trivial⟩
                    refine HO.of #[true, true, true, true, true, true, true, true, true, true, true, true, true, true] rfl rfl ?_
                    refine WL.storeR (R := (RSl (RI .u32))) (z := r4529) 0 [.slice A4531 r4529.length c4532] g155 hS rfl hA4536 rfl (by rw [Row.len (hS.res 0 rfl)]; exact hq4537) rfl rfl (⟨A4531, c4532, rfl, (hS.sl 1 rfl).1, (hS.sl 1 rfl).2⟩) ?_
                    intro w hS
                    refine WL.nil ?_
                    refine HL.next (hS.pick [1] [4, 5] rfl) ?_
                    refine HL.done (by kernel_rfl) (HL.keepQ ?_)
                    refine WQ.blockN ?_
                    have hS := hS.pick [0] [4] rfl
                    exact WQ.toJ ⟨(y4294.set x4492.output.toNat r4529), A4291, y4294.length, c4293, Option.some.inj h, rfl, hS⟩ ⟨rfl, rfl, rfl, rfl, trivial⟩
                  · refine HO.of #[true, true, true, true, true, true, true, false, true, true, false, false, false, false] rfl rfl ?_
                    refine WL.call e181 rfl rfl hS (rules_Largest_ok (hS).mx_lt k x4492 (hS.sl 2 rfl) _ hr4523) rfl ?_
                    intro v w hB hS hP
                    obtain ⟨rfl⟩ := hP
                    refine WL.nil ?_
                    refine HL.next (hS.pick [1] [1, 2] rfl) ?_
                    refine HL.all [7, 10] (by kernel_rfl) rfl ⟨?_, ?_, trivial⟩
                    · refine HO.of #[true, true, true, true, true, true, true, true, true, true, false, false, false, false] rfl rfl ?_
                      obtain ⟨ad4543, cs4544, hA4545, hq4546, hK4547, hc4548⟩ := hS.rget 0 rfl (rdS hx4512).2.2
                      cases hA4515.symm.trans hA4545
                      obtain ⟨A4549, c4550, rfl, hs4551⟩ := hK4547
                      have hS := hS.addF (FSl (RI .u32) A4549 c4550 x4511) hs4551
                      refine WL.val (R_load1 g155 rfl (hc4548 0 _ rfl)) rfl rfl ?_
                      refine WL.nil ?_
                      refine HL.next (hS.pick [1] [2, 3] rfl) ?_
                      refine HL.all [10] (by kernel_rfl) rfl ⟨?_, trivial⟩
                      refine HO.of #[true, true, true, true, true, true, true, true, true, true, true, false, false, false] rfl rfl ?_
                      refine WL.call e125 rfl rfl hS (limbs_From_ok (hS).mx_lt k r4522  _ hr4525) rfl ?_
                      intro v w hB hS hP
                      obtain ⟨A4526, c4527, rfl, ho4528⟩ := hP
                      have hS := hS.addF (FSl (RI .u32) A4526 c4527 r4524) ho4528
                      refine WL.nil ?_
                      refine HL.next (hS.pick [1] [3, 4] rfl) ?_
                      refine HL.all [11] (by kernel_rfl) rfl ⟨?_, trivial⟩
                      refine HO.of #[true, true, true, true, true, true, true, true, true, true, true, true, false, false] rfl rfl ?_
                      refine WL.call e180 rfl rfl hS (limbs_Add_ok (hS).mx_lt k x4511 r4524 (hS.sl 1 rfl) (hS.sl 0 rfl) _ hr4530) rfl ?_
                      intro v w hB hS hP
                      obtain ⟨A4531, c4532, rfl, ho4533⟩ := hP
                      have hS := hS.addF (FSl (RI .u32) A4531 c4532 r4529) ho4533
                      refine WL.nil ?_
                      refine HL.next (hS.pick [1] [4, 5] rfl) ?_
                      refine HL.all [12] (by kernel_rfl) rfl ⟨?_, trivial⟩
                      refine HO.of #[true, true, true, true, true, true, true, true, true, true, true, true, true, false] rfl rfl ?_
                      obtain ⟨ad4534, cs4535, hA4536, hq4537, hK4538, hc4539⟩ := hS.rget 0 rfl (rdS hx4512).2.2
                      obtain ⟨A4540, c4541, rfl, hs4542⟩ := hK4538
                      have hS := hS.addF (FSl (RI .u32) A4540 c4541 x4511) hs4542
                      refine WL.val (R_indexAddr u202 z155 rfl rfl hA4536 (rdS hx4512).1 hq4537) rfl rfl ?_
                      refine WL.nil ?_
                      refine HL.next (hS.pick [1] [5, 6] rfl) ?_
                      refine HL.all [13] (by kernel_rfl) rfl ⟨?_, trivial⟩
                      refine HO.of #[true, true, true, true, true, true, true, true, true, true, true, true, true, true] rfl rfl ?_
                      refine WL.storeR (R := (RSl (RI .u32))) (z := r4529) 0 [.slice A4531 r4529.length c4532] g155 hS rfl hA4536 rfl (by rw [Row.len (hS.res 0 rfl)]; exact hq4537) rfl rfl (⟨A4531, c4532, rfl, (hS.sl 1 rfl).1, (hS.sl 1 rfl).2⟩) ?_
                      intro w hS
                      refine WL.nil ?_
                      refine HL.next (hS.pick [1] [5, 6] rfl) ?_
                      refine HL.done (by kernel_rfl) (HL.keepQ ?_)
                      refine WQ.blockN ?_
                      have hS := hS.pick [0] [5] rfl
                      exact WQ.toJ ⟨(y4294.set x4492.output.toNat r4529), A4291, y4294.length, c4293, Option.some.inj h, rfl, hS⟩ ⟨rfl, rfl, rfl, rfl, trivial⟩
                    · refine HO.of #[true, true, true, true, true, true, true, false, true, true, true, false, false, false] rfl rfl ?_
                      refine WL.call e125 rfl rfl hS (limbs_From_ok (hS).mx_lt k r4522  _ hr4525) rfl ?_
                      intro v w hB hS hP
                      obtain ⟨A4526, c4527, rfl, ho4528⟩ := hP
                      have hS := hS.addF (FSl (RI .u32) A4526 c4527 r4524) ho4528
                      refine WL.nil ?_
                      refine HL.next (hS.pick [1] [2, 3] rfl) ?_
                      refine HL.all [7] (by kernel_rfl) rfl ⟨?_, trivial⟩
                      refine HO.of #[true, true, true, true, true, true, true, true, true, true, true, false, false, false] rfl rfl ?_
                      obtain ⟨ad4543, cs4544, hA4545, hq4546, hK4547, hc4548⟩ := hS.rget 0 rfl (rdS hx4512).2.2
                      cases hA4515.symm.trans hA4545
                      obtain ⟨A4549, c4550, rfl, hs4551⟩ := hK4547
                      have hS := hS.addF (FSl (RI .u32) A4549 c4550 x4511) hs4551
                      refine WL.val (R_load1 g155 rfl (hc4548 0 _ rfl)) rfl rfl ?_
                      refine WL.nil ?_
                      refine HL.next (hS.pick [1] [3, 4] rfl) ?_
                      refine HL.all [11] (by kernel_rfl) rfl ⟨?_, trivial⟩
                      refine HO.of #[true, true, true, true, true, true, true, true, true, true, true, true, false, false] rfl rfl ?_
                      refine WL.call e180 rfl rfl hS (limbs_Add_ok (hS).mx_lt k x4511 r4524 (hS.sl 0 rfl) (hS.sl 1 rfl) _ hr4530) rfl ?_
                      intro v w hB hS hP
                      obtain ⟨A4531, c4532, rfl, ho4533⟩ := hP
                      have hS := hS.addF (FSl (RI .u32) A4531 c4532 r4529) ho4533
                      refine WL.nil ?_
                      refine HL.next (hS.pick [1] [4, 5] rfl) ?_
                      refine HL.all [12] (by kernel_rfl) rfl ⟨?_, trivial⟩
                      refine HO.of #[true, true, true, true, true, true, true, true, true, true, true, true, true, false] rfl rfl ?_
                      obtain ⟨ad4534, cs4535, hA4536, hq4537, hK4538, hc4539⟩ := hS.rget 0 rfl (rdS hx4512).2.2
                      obtain ⟨A4540, c4541, rfl, hs4542⟩ := hK4538
                      have hS := hS.addF (FSl (RI .u32) A4540 c4541 x4511) hs4542
                      refine WL.val (R_indexAddr u202 z155 rfl rfl hA4536 (rdS hx4512).1 hq4537) rfl rfl ?_
                      refine WL.nil ?_
                      refine HL.next (hS.pick [1] [5, 6] rfl) ?_
                      refine HL.all [13] (by kernel_rfl) rfl ⟨?_, trivial⟩
                      refine HO.of #[true, true, true, true, true, true, true, true, true, true, true, true, true, true] rfl rfl ?_
                      refine WL.storeR (R := (RSl (RI .u32))) (z := r4529) 0 [.slice A4531 r4529.length c4532] g155 hS rfl hA4536 rfl (by rw [Row.len (hS.res 0 rfl)]; exact hq4537) rfl rfl (⟨A4531, c4532, rfl, (hS.sl 1 rfl).1, (hS.sl 1 rfl).2⟩) ?_
                      intro w hS
                      refine WL.nil ?_
                      refine HL.next (hS.pick [1] [5, 6] rfl) ?_
                      refine HL.done (by kernel_rfl) (HL.keepQ ?_)
                      refine WQ.blockN ?_
                      have hS := hS.pick [0] [5] rfl
                      exact WQ.toJ ⟨(y4294.set x4492.output.toNat r4529), A4291, y4294.length, c4293, Option.some.inj h, rfl, hS⟩ ⟨rfl, rfl, rfl, rfl, trivial⟩
                · refine HO.of #[true, true, true, true, true, true, false, false, true, true, false, false, false, false] rfl rfl ?_
                  refine WL.call e181 rfl rfl hS (rules_Largest_ok (hS).mx_lt k x4492 (hS.sl 1 rfl) _ hr4523) rfl ?_
                  intro v w hB hS hP
                  obtain ⟨rfl⟩ := hP
                  refine WL.nil ?_
                  refine HL.next (hS.pick [1] [0, 1] rfl) ?_
                  refine HL.all [6, 10] (by kernel_rfl) rfl ⟨?_, ?_, trivial⟩
                  · refine HO.of #[true, true, true, true, true, true, true, false, true, true, false, false, false, false] rfl rfl ?_
                    obtain ⟨ad4513, cs4514, hA4515, hq4516, hK4517, hc4518⟩ := hS.rget 0 rfl (rdS hx4512).2.2
                    obtain ⟨A4519, c4520, rfl, hs4521⟩ := hK4517
                    have hS := hS.addF (FSl (RI .u32) A4519 c4520 x4511) hs4521
                    refine WL.val (R_indexAddr u202 z155 rfl rfl hA4515 (rdS hx4512).1 hq4516) rfl rfl ?_
                    refine WL.nil ?_
                    refine HL.next (hS.pick [1] [1, 2] rfl) ?_
                    refine HL.all [7, 10] (by kernel_rfl) rfl ⟨?_, ?_, trivial⟩
                    · refine HO.of #[true, true, true, true, true, true, true, true, true, true, false, false, false, false] rfl rfl ?_
                      refine WL.val (R_load1 g155 rfl (hc4518 0 _ rfl)) rfl rfl ?_
                      refine WL.nil ?_
                      refine HL.next (hS.pick [1] [1, 2] rfl) ?_
                      refine HL.all [10] (by kernel_rfl) rfl ⟨?_, trivial⟩
                      refine HO.of #[true, true, true, true, true, true, true, true, true, true, true, false, false, false] rfl rfl ?_
                      refine WL.call e125 rfl rfl hS (limbs_From_ok (hS).mx_lt k r4522  _ hr4525) rfl ?_
                      intro v w hB hS hP
                      obtain ⟨A4526, c4527, rfl, ho4528⟩ := hP
                      have hS := hS.addF (FSl (RI .u32) A4526 c4527 r4524) ho4528
                      refine WL.nil ?_
                      refine HL.next (hS.pick [1] [2, 3] rfl) ?_
                      refine HL.all [11] (by kernel_rfl) rfl ⟨?_, trivial⟩
                      refine HO.of #[true, true, true, true, true, true, true, true, true, true, true, true, false, false] rfl rfl ?_
                      refine WL.call e180 rfl rfl hS (limbs_Add_ok (hS).mx_lt k x4511 r4524 (hS.sl 1 rfl) (hS.sl 0 rfl) _ hr4530) rfl ?_
                      intro v w hB hS hP
                      obtain ⟨A4531, c4532, rfl, ho4533⟩ := hP
                      have hS := hS.addF (FSl (RI .u32) A4531 c4532 r4529) ho4533
                      refine WL.nil ?_
                      refine HL.next (hS.pick [1] [3, 4] rfl) ?_
                      refine HL.all [12] (by kernel_rfl) rfl ⟨?_, trivial⟩
                      refine HO.of #[true, true, true, true, true, true, true, true, true, true, true, true, true, false] rfl rfl ?_
                      obtain ⟨ad4534, cs4535, hA4536, hq4537, hK4538, hc4539⟩ := hS.rget 0 rfl (rdS hx4512).2.2
                      obtain ⟨A4540, c4541, rfl, hs4542⟩ := hK4538
                      have hS := hS.addF (FSl (RI .u32) A4540 c4541 x4511) hs4542
                      refine WL.val (R_indexAddr u202 z155 rfl rfl hA4536 (rdS hx4512).1 hq4537) rfl rfl ?_
                      refine WL.nil ?_
                      refine HL.next (hS.pick [1] [4, 5] rfl) ?_
                      refine HL.all [13] (by kernel_rfl) rfl ⟨?_, trivial⟩
                      refine HO.of #[true, true, true, true, true, true, true, true, true, true, true, true, true, true] rfl rfl ?_
                      refine WL.storeR (R := (RSl (RI .u32))) (z := r4529) 0 [.slice A4531 r4529.length c4532] g155 hS rfl hA4536 rfl (by rw [Row.len (hS.res 0 rfl)]; exact hq4537) rfl rfl (⟨A4531, c4532, rfl, (hS.sl 1 rfl).1, (hS.sl 1 rfl).2⟩) ?_
                      intro w hS
                      refine WL.nil ?_
                      refine HL.next (hS.pick [1] [4, 5] rfl) ?_
                      refine HL.done (by kernel_rfl) (HL.keepQ ?_)
                      refine WQ.blockN ?_
                      have hS := hS.pick [0] [4] rfl
                      exact WQ.toJ ⟨(y4294.set x4492.output.toNat r4529), A4291, y4294.length, c4293, Option.some.inj h, rfl, hS⟩ ⟨rfl, rfl, rfl, rfl, trivial⟩
                    · refine HO.of #[true, true, true, true, true, true, true, false, true, true, true, false, false, false] rfl rfl ?_
                      refine WL.call e125 rfl rfl hS (limbs_From_ok (hS).mx_lt k r4522  _ hr4525) rfl ?_
                      intro v w hB hS hP
                      obtain ⟨A4526, c4527, rfl, ho4528⟩ := hP
                      have hS := hS.addF (FSl (RI .u32) A4526 c4527 r4524) ho4528
                      refine WL.nil ?_
                      refine HL.next (hS.pick [1] [2, 3] rfl) ?_
                      refine HL.all [7] (by kernel_rfl) rfl ⟨?_, trivial⟩
                      refine HO.of #[true, true, true, true, true, true, true, true, true, true, true, false, false, false] rfl rfl ?_
                      obtain ⟨ad4543, cs4544, hA4545, hq4546, hK4547, hc4548⟩ := hS.rget 0 rfl (rdS hx4512).2.2
                      cases hA4515.symm.trans hA4545
                      obtain ⟨A4549, c4550, rfl, hs4551⟩ := hK4547
                      have hS := hS.addF (FSl (RI .u32) A4549 c4550 x4511) hs4551
                      refine WL.val (R_load1 g155 rfl (hc4548 0 _ rfl)) rfl rfl ?_
                      refine WL.nil ?_
                      refine HL.next (hS.pick [1] [3, 4] rfl) ?_
                      refine HL.all [11] (by kernel_rfl) rfl ⟨?_, trivial⟩
                      refine HO.of #[true, true, true, true, true, true, true, true, true, true, true, true, false, false] rfl rfl ?_
                      refine WL.call e180 rfl rfl hS (limbs_Add_ok (hS).mx_lt k x4511 r4524 (hS.sl 0 rfl) (hS.sl 1 rfl) _ hr4530) rfl ?_
                      intro v w hB hS hP
                      obtain ⟨A4531, c4532, rfl, ho4533⟩ := hP
                      have hS := hS.addF (FSl (RI .u32) A4531 c4532 r4529) ho4533
                      refine WL.nil ?_
                      refine HL.next (hS.pick [1] [4, 5] rfl) ?_
                      refine HL.all [12] (by kernel_rfl) rfl ⟨?_, trivial⟩
                      refine HO.of #[true, true, true, true, true, true, true, true, true, true, true, true, true, false] rfl rfl ?_
                      obtain ⟨ad4534, cs4535, hA4536, hq4537, hK4538, hc4539⟩ := hS.rget 0 rfl (rdS hx4512).2.2
                      obtain ⟨A4540, c4541, rfl, hs4542⟩ := hK4538
                      have hS := hS.addF (FSl (RI .u32) A4540 c4541 x4511) hs4542
                      refine WL.val (R_indexAddr u202 z155 rfl rfl hA4536 (rdS hx4512).1 hq4537) rfl rfl ?_
                      refine WL.nil ?_
                      refine HL.next (hS.pick [1] [5, 6] rfl) ?_
                      refine HL.all [13] (by kernel_rfl) rfl ⟨?_, trivial⟩
                      refine HO.of #[true, true, true, true, true, true, true, true, true, true, true, true, true, true] rfl rfl ?_
                      refine WL.storeR (R := (RSl (RI .u32))) (z := r4529) 0 [.slice A4531 r4529.length c4532] g155 hS rfl hA4536 rfl (by rw [Row.len (hS.res 0 rfl)]; exact hq4537) rfl rfl (⟨A4531, c4532, rfl, (hS.sl 1 rfl).1, (hS.sl 1 rfl).2⟩) ?_
                      intro w hS
                      refine WL.nil ?_
                      refine HL.next (hS.pick [1] [5, 6] rfl) ?_
                      refine HL.done (by kernel_rfl) (HL.keepQ ?_)
                      refine WQ.blockN ?_
                      have hS := hS.pick [0] [5] rfl
                      exact WQ.toJ ⟨(y4294.set x4492.output.toNat r4529), A4291, y4294.length, c4293, Option.some.inj h, rfl, hS⟩ ⟨rfl, rfl, rfl, rfl, trivial⟩
                  · refine HO.of #[true, true, true, true, true, true, false, false, true, true, true, false, false, false] rfl rfl ?_
                    refine WL.call e125 rfl rfl hS (limbs_From_ok (hS).mx_lt k r4522  _ hr4525) rfl ?_
                    intro v w hB hS hP
                    obtain ⟨A4526, c4527, rfl, ho4528⟩ := hP
                    have hS := hS.addF (FSl (RI .u32) A4526 c4527 r4524) ho4528
                    refine WL.nil ?_
                    refine HL.next (hS.pick [1] [1, 2] rfl) ?_
                    refine HL.all [6] (by kernel_rfl) rfl ⟨?_, trivial⟩
                    refine HO.of #[true, true, true, true, true, true, true, false, true, true, true, false, false, false] rfl rfl ?_
                    obtain ⟨ad4513, cs4514, hA4515, hq4516, hK4517, hc4518⟩ := hS.rget 0 rfl (rdS hx4512).2.2
                    obtain ⟨A4519, c4520, rfl, hs4521⟩ := hK4517
                    have hS := hS.addF (FSl (RI .u32) A4519 c4520 x4511) hs4521
                    refine WL.val (R_indexAddr u202 z155 rfl rfl hA4515 (rdS hx4512).1 hq4516) rfl rfl ?_
                    refine WL.nil ?_
                    refine HL.next (hS.pick [1] [2, 3] rfl) ?_
                    refine HL.all [7] (by kernel_rfl) rfl ⟨?_, trivial⟩
                    refine HO.of #[true, true, true, true, true, true, true, true, true, true, true, false, false, false] rfl rfl ?_
                    refine WL.val (R_load1 g155 rfl (hc4518 0 _ rfl)) rfl rfl ?_
                    refine WL.nil ?_
                    refine HL.next (hS.pick [1] [2, 3] rfl) ?_
                    refine HL.all [11] (by kernel_rfl) rfl ⟨?_, trivial⟩
                    refine HO.of #[true, true, true, true, true, true, true, true, true, true, true, true, false, false] rfl rfl ?_
                    refine WL.call e180 rfl rfl hS (limbs_Add_ok (hS).mx_lt k x4511 r4524 (hS.sl 0 rfl) (hS.sl 1 rfl) _ hr4530) rfl ?_
                    intro v w hB hS hP
                    obtain ⟨A4531, c4532, rfl, ho4533⟩ := hP
                    have hS := hS.addF (FSl (RI .u32) A4531 c4532 r4529) ho4533
                    refine WL.nil ?_
                    refine HL.next (hS.pick [1] [3, 4] rfl) ?_
                    refine HL.all [12] (by kernel_rfl) rfl ⟨?_, trivial⟩
                    refine HO.of #[true, true, true, true, true, true, true, true, true, true, true, true, true, false] rfl rfl ?_
                    obtain ⟨ad4534, cs4535, hA4536, hq4537, hK4538, hc4539⟩ := hS.rget 0 rfl (rdS hx4512).2.2
                    obtain ⟨A4540, c4541, rfl, hs4542⟩ := hK4538
                    have hS := hS.addF (FSl (RI .u32) A4540 c4541 x4511) hs4542
                    refine WL.val (R_indexAddr u202 z155 rfl rfl hA4536 (rdS hx4512).1 hq4537) rfl rfl ?_
                    refine WL.nil ?_
                    refine HL.next (hS.pick [1] [4, 5] rfl) ?_
                    refine HL.all [13] (by kernel_rfl) rfl ⟨?_, trivial⟩
                    refine HO.of #[true, true, true, true, true, true, true, true, true, true, true, true, true, true] rfl rfl ?_
                    refine WL.storeR (R := (RSl (RI .u32))) (z := r4529) 0 [.slice A4531 r4529.length c4532] g155 hS rfl hA4536 rfl (by rw [Row.len (hS.res 0 rfl)]; exact hq4537) rfl rfl (⟨A4531, c4532, rfl, (hS.sl 1 rfl).1, (hS.sl 1 rfl).2⟩) ?_
                    intro w hS
                    refine WL.nil ?_
                    refine HL.next (hS.pick [1] [4, 5] rfl) ?_
                    refine HL.done (by kernel_rfl) (HL.keepQ ?_)
                    refine WQ.blockN ?_
                    have hS := hS.pick [0] [4] rfl
                    exact WQ.toJ ⟨(y4294.set x4492.output.toNat r4529), A4291, y4294.length, c4293, Option.some.inj h, rfl, hS⟩ ⟨rfl, rfl, rfl, rfl, trivial⟩
              · have h := ifF hb4510 h
                refine WC.skip ?_
                refine WQ.blockN ?_
                have hS := hS.pick [0] [0] rfl
                exact WQ.toJ ⟨y4294, A4291, y4294.length, c4293, Option.some.inj h, rfl, hS⟩ ⟨rfl, rfl, rfl, rfl, trivial⟩
          · rintro _ w ⟨y4488, A4485, n4486, c4487, rfl, rfl, hS⟩
            have h := h4491
            try dsimp only at h
            obtain rfl := Row.len (hS.res 0 rfl)
            refine WC.reg ?_
            refine WL.val (R_ar rfl rfl rfl) rfl rfl ?_
            refine WL.val (R_move rfl) rfl rfl ?_
            refine WL.nil ?_
            have hS := hS.pick [0] [0] rfl
            exact WQ.toJ ⟨y4488, (IntKind.i64.wrap (y4295 + (1 : Int))), A4485, y4488.length, c4487, rfl, hS, h⟩ ⟨rfl, rfl, rfl, rfl, trivial⟩
        · have h := ifF hb4424 h
          refine WC.exit ?_
          refine WQ.thenE ?_
          refine WQ.thenE ?_
          refine WQ.blockE ?_
          have hS := hS.pick [0] [] rfl
          exact WQ.toJ ⟨y4294, A4291, y4294.length, c4293, Option.some.inj h, rfl, hS⟩ ⟨rfl, trivial⟩
    · rintro _ w ⟨y4159, A4156, n4157, c4158, rfl, rfl, hS⟩
      have h := h4162
      try dsimp only at h
      obtain rfl := Row.len (hS.res 0 rfl)
      refine WC.seq ?_
      refine WC.reg ?_
      refine WL.val (R_move rfl) rfl rfl ?_
      refine WL.val (R_assign rfl) rfl rfl ?_
      refine WL.nil ?_
      refine WQ.thenC ?_
      refine WC.ret ?_
      have hS0 := hS
      have hS := hS.pick [0] [] rfl
      obtain rfl := Option.some.inj h
      exact ret_1 rfl rfl ⟨_, rfl, hS.bel, ⟨A4156, y4159.length, c4158, rfl, hS.res 0 rfl⟩⟩

def limbs_Cmp_l0 (k : Nat) (r4719 : List Int) (r4724 : List Int) : Nat → Int → Option (Fl Int Unit)
  | 0, _ => none
  | m + 1, y4828 =>
    if decide ((0 : Int) ≤ y4828) = true then ((rd r4719 y4828).bind fun x4861 =>
    (rd r4724 y4828).bind fun x4869 =>
    if decide (x4861 < x4869) = true then ((some (-1 : Int)).map Fl.ret) else (if decide (x4869 < x4861) = true then ((some (1 : Int)).map Fl.ret) else (limbs_Cmp_l0 k r4719 r4724 m (IntKind.i64.wrap (y4828 - (1 : Int)))))) else (some (.go ()))

def limbs_Cmp (k : Nat) (p4570 : List Int) (p4574 : List Int) : Option Int :=
    (limbs_trim k p4570).bind fun r4719 =>
    (limbs_trim k p4574).bind fun r4724 =>
    if decide ((r4719.length : Int) ≠ (r4724.length : Int)) = true then (if decide ((r4719.length : Int) < (r4724.length : Int)) = true then (some (-1 : Int)) else (some (1 : Int))) else ((limbs_Cmp_l0 k r4719 r4724 k (IntKind.i64.wrap ((r4719.length : Int) - (1 : Int))) : Option (Fl Int Unit)).bind fun o => match o with
    | .ret r => some r
    | .go _ =>
    (some (0 : Int)))

theorem limbs_Cmp_ok {w0 : World} {M : MSet} (hM : ∀ k, M k → k < w0.heap.size) (k : Nat) (p4570 : List Int) (p4574 : List Int) {A4571 : Option Addr} {c4572 : Nat} (hs4573 : p4570.length ≤ c4572 ∧ Sl (RI .u32) M w0 A4571 p4570) {A4575 : Option Addr} {c4576 : Nat} (hs4577 : p4574.length ≤ c4576 ∧ Sl (RI .u32) M w0 A4575 p4574) (r : Int) (h : limbs_Cmp k p4570 p4574 = some r) :
    Calls Tryz.prog 127 #[.slice A4571 p4570.length c4572, .slice A4575 p4574.length c4576] w0 (Gives w0 fun v w' => v = .int .i64 r) := by
  have hS := Sta.init hM
  have hS := hS.arg hs4573
  have hS := hS.arg hs4577
  unfold limbs_Cmp at h
  refine calls_enter (n := 0) Tryz.func127 rfl [(0, .slice A4571 p4570.length c4572), (1, .slice A4575 p4574.length c4576)] rfl rfl ⟨rfl, rfl, trivial⟩ ?_
  refine WC.seq ?_
  refine WC.reg ?_
  refine WL.val (R_assign rfl) rfl rfl ?_
  refine WL.nil ?_
  refine WQ.thenC ?_
  refine WC.seq ?_
  refine WC.reg ?_
  refine WL.val (R_move rfl) rfl rfl ?_
  obtain ⟨r4719, hr4720, h⟩ := bindS h
  refine WL.call e176 rfl rfl hS (limbs_trim_ok (hS).mx_lt k p4570 (hS.sl 1 rfl) _ hr4720) rfl ?_
  intro v w hB hS hP
  obtain ⟨A4721, c4722, rfl, ho4723⟩ := hP
  have hS := hS.addF (FSl (RI .u32) A4721 c4722 r4719) ho4723
  refine WL.val (R_move rfl) rfl rfl ?_
  obtain ⟨r4724, hr4725, h⟩ := bindS h
  refine WL.call e176 rfl rfl hS (limbs_trim_ok (hS).mx_lt k p4574 (hS.sl 1 rfl) _ hr4725) rfl ?_
  intro v w hB hS hP
  obtain ⟨A4726, c4727, rfl, ho4728⟩ := hP
  have hS := hS.addF (FSl (RI .u32) A4726 c4727 r4724) ho4728
  refine WL.val (R_assign rfl) rfl rfl ?_
  refine WL.val (R_assign rfl) rfl rfl ?_
  refine WL.nil ?_
  refine WQ.thenC ?_
  refine WC.seq ?_
  refine WC.seq ?_
  refine WC.reg ?_
  refine WL.val (R_move rfl) rfl rfl ?_
  refine WL.val (R_lenS u155 rfl) rfl rfl ?_
  refine WL.val (R_move rfl) rfl rfl ?_
  refine WL.val (R_lenS u155 rfl) rfl rfl ?_
  refine WL.val (R_cmp rfl rfl rfl) rfl rfl ?_
  refine WL.nil ?_
  refine WQ.thenC ?_
  refine WC.cond rfl (fun hb4729 => ?_) (fun hb4729 => ?_)
  · have h := ifT hb4729 h
    refine WC.seq ?_
    refine WC.seq ?_
    refine WC.reg ?_
    refine WL.val (R_move rfl) rfl rfl ?_
    refine WL.val (R_lenS u155 rfl) rfl rfl ?_
    refine WL.val (R_move rfl) rfl rfl ?_
    refine WL.val (R_lenS u155 rfl) rfl rfl ?_
    refine WL.val (R_cmp rfl rfl rfl) rfl rfl ?_
    refine WL.nil ?_
    refine WQ.thenC ?_
    refine WC.cond rfl (fun hb4730 => ?_) (fun hb4730 => ?_)
    · have h := ifT hb4730 h
      refine WC.seq ?_
      refine WC.reg ?_
      refine WL.val (R_assign rfl) rfl rfl ?_
      refine WL.nil ?_
      refine WQ.thenC ?_
      refine WC.ret ?_
      refine WQ.thenR ?_
      refine WQ.thenR ?_
      have hS0 := hS
      obtain rfl := Option.some.inj h
      exact ret_1 rfl rfl ⟨_, rfl, hS.bel, rfl⟩
    · have h := ifF hb4730 h
      refine WC.skip ?_
      refine WQ.thenC ?_
      refine WC.seq ?_
      refine WC.reg ?_
      refine WL.val (R_assign rfl) rfl rfl ?_
      refine WL.nil ?_
      refine WQ.thenC ?_
      refine WC.ret ?_
      refine WQ.thenR ?_
      have hS0 := hS
      obtain rfl := Option.some.inj h
      exact ret_1 rfl rfl ⟨_, rfl, hS.bel, rfl⟩
  · have h := ifF hb4729 h
    refine WC.skip ?_
    refine WQ.thenC ?_
    obtain ⟨o4794, h4795, h4796⟩ := bindS h
    refine WC.seqM (fun env w => Fl.go () = o4794 ∧ env = [] ∧ Sta w0 M [] [] w) ?_ ?_
    · have h := h4795
      refine WC.seq ?_
      refine WC.reg ?_
      refine WL.val (R_move rfl) rfl rfl ?_
      refine WL.val (R_lenS u155 rfl) rfl rfl ?_
      refine WL.val (R_ar rfl rfl rfl) rfl rfl ?_
      refine WL.val (R_assign rfl) rfl rfl ?_
      refine WL.nil ?_
      refine WQ.thenC ?_
      refine WC.block ?_
      have hS := hS.pick [] [1, 0] rfl
      refine WC.loopJ (fun m env w => ∃ (y4828 : Int), env = [(0, .slice A4721 r4719.length c4722), (1, .slice A4726 r4724.length c4727), (5, .int .i64 y4828)] ∧ Sta w0 M [] [FSl (RI .u32) A4721 c4722 r4719, FSl (RI .u32) A4726 c4727 r4724] w ∧ limbs_Cmp_l0 k r4719 r4724 m y4828 = some o4794) k ⟨(IntKind.i64.wrap ((r4719.length : Int) - (1 : Int))), rfl, hS, h⟩ ⟨rfl, rfl, rfl, trivial⟩ (fun env w hI => ?_) (fun m env w hI => ?_)
      · obtain ⟨y4828, rfl, hS, h⟩ := hI
        rw [limbs_Cmp_l0] at h
        cases h
      · obtain ⟨y4828, rfl, hS, h⟩ := hI
        rw [limbs_Cmp_l0] at h
        refine WC.seq ?_
        refine WC.seq ?_
        refine WC.reg ?_
        refine WL.val (R_move rfl) rfl rfl ?_
        refine WL.val (R_cmp rfl rfl rfl) rfl rfl ?_
        refine WL.nil ?_
        refine WQ.thenC ?_
        refine WC.cond rfl (fun hb4860 => ?_) (fun hb4860 => ?_)
        · have h := ifT hb4860 h
          refine WC.skip ?_
          refine WQ.thenC ?_
          refine WC.seq ?_
          refine WC.block ?_
          refine WC.block ?_
          refine WC.seq ?_
          refine WC.draw fol (by kernel_rfl) hS ?_
          refine QL.val (fun _ hw => R_move rfl) rfl ?_
          refine QL.val (fun _ hw => R_move rfl) rfl ?_
          obtain ⟨x4861, hx4862, h⟩ := bindS h
          obtain ⟨ad4863, cs4864, hA4865, hq4866, hK4867, hc4868⟩ := hS.sget 0 rfl (rdS hx4862).2.2
          obtain rfl := hK4867
          refine QL.val (fun _ hw => R_indexAddr u155 z277 rfl rfl hA4865 (rdS hx4862).1 hq4866) rfl ?_
          refine QL.val (fun _ hw => R_load1 g277 rfl (lat hw (hc4868 0 _ rfl))) rfl ?_
          refine QL.val (fun _ hw => R_move rfl) rfl ?_
          refine QL.val (fun _ hw => R_move rfl) rfl ?_
          obtain ⟨x4869, hx4870, h⟩ := bindS h
          obtain ⟨ad4871, cs4872, hA4873, hq4874, hK4875, hc4876⟩ := hS.sget 1 rfl (rdS hx4870).2.2
          obtain rfl := hK4875
          refine QL.val (fun _ hw => R_indexAddr u155 z277 rfl rfl hA4873 (rdS hx4870).1 hq4874) rfl ?_
          refine QL.val (fun _ hw => R_load1 g277 rfl (lat hw (hc4876 0 _ rfl))) rfl ?_
          refine QL.val (fun _ hw => R_cmp rfl rfl rfl) rfl ?_
          refine QL.val (fun _ hw => R_assign rfl) rfl ?_
          refine QL.last (fun w hb _ => ?_)
          have hS := hS.ext hb
          refine WQ.thenC ?_
          refine WC.cond rfl (fun hb4877 => ?_) (fun hb4877 => ?_)
          · have h := ifT hb4877 h
            refine WC.seq ?_
            refine WC.reg ?_
            refine WL.val (R_assign rfl) rfl rfl ?_
            refine WL.nil ?_
            refine WQ.thenC ?_
            refine WC.ret ?_
            refine WQ.blockR ?_
            refine WQ.blockR ?_
            refine WQ.thenR ?_
            refine WQ.thenR ?_
            refine WQ.blockR ?_
            refine WQ.thenR ?_
            obtain ⟨_, hr, rfl⟩ := mapS h
            have h := hr.trans h4796
            have hS0 := hS
            obtain rfl := Option.some.inj h
            exact ret_1 rfl rfl ⟨_, rfl, hS.bel, rfl⟩
          · have h := ifF hb4877 h
            refine WC.seq ?_
            refine WC.draw fol (by kernel_rfl) hS ?_
            refine QL.val (fun _ hw => R_move rfl) rfl ?_
            refine QL.val (fun _ hw => R_move rfl) rfl ?_
            obtain ⟨ad4878, cs4879, hA4880, hq4881, hK4882, hc4883⟩ := hS.sget 0 rfl (rdS hx4862).2.2
            obtain rfl := hK4882
            refine QL.val (fun _ hw => R_indexAddr u155 z277 rfl rfl hA4880 (rdS hx4862).1 hq4881) rfl ?_
            refine QL.val (fun _ hw => R_load1 g277 rfl (lat hw (hc4883 0 _ rfl))) rfl ?_
            refine QL.val (fun _ hw => R_move rfl) rfl ?_
            refine QL.val (fun _ hw => R_move rfl) rfl ?_
            obtain ⟨ad4884, cs4885, hA4886, hq4887, hK4888, hc4889⟩ := hS.sget 1 rfl (rdS hx4870).2.2
            obtain rfl := hK4888
            refine QL.val (fun _ hw => R_indexAddr u155 z277 rfl rfl hA4886 (rdS hx4870).1 hq4887) rfl ?_
            refine QL.val (fun _ hw => R_load1 g277 rfl (lat hw (hc4889 0 _ rfl))) rfl ?_
            refine QL.val (fun _ hw => R_cmp rfl rfl rfl) rfl ?_
            refine QL.val (fun _ hw => R_assign rfl) rfl ?_
            refine QL.last (fun w hb _ => ?_)
            have hS := hS.ext hb
            refine WQ.thenC ?_
            refine WC.cond rfl (fun hb4890 => ?_) (fun hb4890 => ?_)
            · have h := ifT hb4890 h
              refine WC.seq ?_
              refine WC.reg ?_
              refine WL.val (R_assign rfl) rfl rfl ?_
              refine WL.nil ?_
              refine WQ.thenC ?_
              refine WC.ret ?_
              refine WQ.blockR ?_
              refine WQ.blockR ?_
              refine WQ.thenR ?_
              refine WQ.thenR ?_
              refine WQ.blockR ?_
              refine WQ.thenR ?_
              obtain ⟨_, hr, rfl⟩ := mapS h
              have h := hr.trans h4796
              have hS0 := hS
              obtain rfl := Option.some.inj h
              exact ret_1 rfl rfl ⟨_, rfl, hS.bel, rfl⟩
            · have h := ifF hb4890 h
              refine WC.skip ?_
              refine WQ.blockN ?_
              refine WQ.blockN ?_
              refine WQ.thenC ?_
              refine WC.reg ?_
              refine WL.val (R_move rfl) rfl rfl ?_
              refine WL.val (R_ar rfl rfl rfl) rfl rfl ?_
              refine WL.val (R_assign rfl) rfl rfl ?_
              refine WL.nil ?_
              have hS := hS.pick [] [0, 1] rfl
              exact WQ.toJ ⟨(IntKind.i64.wrap (y4828 - (1 : Int))), rfl, hS, h⟩ ⟨rfl, rfl, rfl, trivial⟩
        · have h := ifF hb4860 h
          refine WC.exit ?_
          refine WQ.thenE ?_
          refine WQ.thenE ?_
          refine WQ.blockE ?_
          have hS := hS.pick [] [] rfl
          exact WQ.toJ ⟨Option.some.inj h, rfl, hS⟩ trivial
    · rintro _ w ⟨rfl, rfl, hS⟩
      have h := h4796
      try dsimp only at h
      refine WC.seq ?_
      refine WC.reg ?_
      refine WL.val (R_assign rfl) rfl rfl ?_
      refine WL.nil ?_
      refine WQ.thenC ?_
      refine WC.ret ?_
      have hS0 := hS
      obtain rfl := Option.some.inj h
      exact ret_1 rfl rfl ⟨_, rfl, hS.bel, rfl⟩

def rules_Check_l0 (k : Nat) (p47 : Ensemble) : Nat → (List (ByteArray × Int)) → Int → Option (Fl Broken Unit)
  | 0, _, _ => none
  | m + 1, y5045, y5046 =>
    if decide (y5046 < (p47.features.length : Int)) = true then ((rd p47.features y5046).bind fun x5073 =>
    (((scan_Name k x5073).bind fun r5089 =>
    some r5089 : Option Bool).bind fun r5087 =>
    if (!r5087) = true then (some ((3 : Int), true)) else ((some (decide ((mget (0 : Int) (mput y5045 x5073 (IntKind.i64.wrap ((mget (0 : Int) y5045 x5073) + (1 : Int)))) x5073) = (1 : Int))) : Option Bool).bind fun r5093 =>
    if (!r5093) = true then (some ((4 : Int), true)) else (some ((0 : Int), false))) : Option (Int × Bool)).bind fun ⟨r5083, r5084⟩ =>
    if r5084 = true then ((some (⟨r5083, (-1 : Int), y5046⟩ : Broken)).map Fl.ret) else (rules_Check_l0 k p47 m (mput y5045 x5073 (IntKind.i64.wrap ((mget (0 : Int) y5045 x5073) + (1 : Int)))) (IntKind.i64.wrap (y5046 + (1 : Int))))) else (some (.go ()))

def rules_Check_l1 (k : Nat) (p47 : Ensemble) : Nat → Int → Option (Fl Broken Unit)
  | 0, _ => none
  | m + 1, y5170 =>
    if decide (y5170 < (p47.trees.length : Int)) = true then ((rd p47.trees y5170).bind fun x5189 =>
    (rules_tree k p47 x5189).bind fun ⟨r5201, r5202⟩ =>
    if decide (r5201 ≠ (0 : Int)) = true then ((some (⟨r5201, y5170, r5202⟩ : Broken)).map Fl.ret) else (rules_Check_l1 k p47 m (IntKind.i64.wrap (y5170 + (1 : Int))))) else (some (.go ()))

def rules_Check_l2 (k : Nat) (p47 : Ensemble) (r5210 : List (List Int)) (r5205 : List Int) : Nat → Int → Option (Fl Broken Unit)
  | 0, _ => none
  | m + 1, y5265 =>
    if decide (y5265 < p47.outputs) = true then ((rd r5210 y5265).bind fun x5282 =>
    (limbs_Cmp k x5282 r5205).bind fun r5293 =>
    if decide ((0 : Int) ≤ r5293) = true then ((some (⟨(31 : Int), (-1 : Int), y5265⟩ : Broken)).map Fl.ret) else (rules_Check_l2 k p47 r5210 r5205 m (IntKind.i64.wrap (y5265 + (1 : Int))))) else (some (.go ()))

def rules_Check (k : Nat) (p47 : Ensemble) : Option Broken :=
    (((scan_Name k p47.name).bind fun r4954 =>
    some r4954 : Option Bool).bind fun r4952 =>
    if (!r4952) = true then (some ((1 : Int), true)) else ((if decide ((1 : Int) ≤ (p47.features.length : Int)) = true then (some (decide ((p47.features.length : Int) ≤ (65536 : Int)))) else (some false) : Option Bool).bind fun r4958 =>
    if (!r4958) = true then (some ((2 : Int), true)) else (some ((0 : Int), false))) : Option (Int × Bool)).bind fun ⟨r4948, r4949⟩ =>
    if r4949 = true then (some (⟨r4948, (-1 : Int), (-1 : Int)⟩ : Broken)) else ((rules_Check_l0 k p47 k ([] : List (ByteArray × Int)) (0 : Int) : Option (Fl Broken Unit)).bind fun o => match o with
    | .ret r => some r
    | .go _ =>
    (((if decide ((1 : Int) ≤ p47.outputs) = true then (some (decide (p47.outputs ≤ (64 : Int)))) else (some false) : Option Bool).bind fun r5102 =>
    if (!r5102) = true then (some ((5 : Int), true)) else ((some (decide ((p47.base.length : Int) = p47.outputs)) : Option Bool).bind fun r5107 =>
    if (!r5107) = true then (some ((6 : Int), true)) else ((some (decide ((p47.trees.length : Int) ≤ (65536 : Int))) : Option Bool).bind fun r5111 =>
    if (!r5111) = true then (some ((7 : Int), true)) else (some ((0 : Int), false)))) : Option (Int × Bool)).bind fun ⟨r5098, r5099⟩ =>
    if r5099 = true then (some (⟨r5098, (-1 : Int), (-1 : Int)⟩ : Broken)) else ((rules_Check_l1 k p47 k (0 : Int) : Option (Fl Broken Unit)).bind fun o => match o with
    | .ret r => some r
    | .go _ =>
    ((limbs_From k (4611686018427387904 : Int)).bind fun r5205 =>
    (rules_rooms k p47).bind fun r5210 =>
    (rules_Check_l2 k p47 r5210 r5205 k (0 : Int) : Option (Fl Broken Unit)).bind fun o => match o with
    | .ret r => some r
    | .go _ =>
    (some (⟨(0 : Int), (0 : Int), (0 : Int)⟩ : Broken))))))

theorem rules_Check_ok {w0 : World} {M : MSet} (hM : ∀ k, M k → k < w0.heap.size) (k : Nat) (p47 : Ensemble) {A48 : Option Addr} {c49 : Nat} (hs50 : p47.features.length ≤ c49 ∧ Sl RStr M w0 A48 p47.features) {A51 : Option Addr} {c52 : Nat} (hs53 : p47.base.length ≤ c52 ∧ Sl (RI .i64) M w0 A51 p47.base) {A54 : Option Addr} {c55 : Nat} (hs56 : p47.trees.length ≤ c55 ∧ Sl RTree M w0 A54 p47.trees) (r : Broken) (h : rules_Check k p47 = some r) :
    Calls Tryz.prog 75 #[.agg #[.string p47.name, .slice A48 p47.features.length c49, .int .i64 p47.outputs, .slice A51 p47.base.length c52, .slice A54 p47.trees.length c55]] w0 (Gives w0 fun v w' => v = .agg #[.int .i64 r.rule, .int .i64 r.tree, .int .i64 r.node_]) := by
  have hS := Sta.init hM
  have hS := hS.arg hs50
  have hS := hS.arg hs53
  have hS := hS.arg hs56
  unfold rules_Check at h
  refine calls_enter (n := 0) Tryz.func75 rfl [(0, .agg #[.string p47.name, .slice A48 p47.features.length c49, .int .i64 p47.outputs, .slice A51 p47.base.length c52, .slice A54 p47.trees.length c55])] rfl rfl ⟨rfl, trivial⟩ ?_
  refine WC.seq ?_
  refine WC.reg ?_
  refine WL.box [.string p47.name, .slice A48 p47.features.length c49, .int .i64 p47.outputs, .slice A51 p47.base.length c52, .slice A54 p47.trees.length c55] rfl rfl hS rfl ?_
  intro b4944 w hS
  refine WL.alloc _ z138 rfl hS rfl ?_
  intro b4945 w hS
  refine WL.nil ?_
  refine WQ.thenC ?_
  refine WC.seq ?_
  refine WC.reg ?_
  refine WL.val (R_build (cells := #[.int .i64 (0 : Int), .int .i64 (-1 : Int), .int .i64 (-1 : Int)]) rfl (by kernel_rfl)) rfl rfl ?_
  refine WL.alloc _ z138 rfl hS rfl ?_
  intro b4946 w hS
  refine WL.storeB 0 [.int .i64 (0 : Int), .int .i64 (-1 : Int), .int .i64 (-1 : Int)] g138 hS rfl rfl rfl rfl rfl rfl rfl [.int .i64 (0 : Int), .int .i64 (-1 : Int), .int .i64 (-1 : Int)] rfl ?_
  intro w hS
  refine WL.nil ?_
  refine WQ.thenC ?_
  refine WC.seq ?_
  refine WC.seq ?_
  refine WC.reg ?_
  refine WL.val (R_func (fs := #[]) (cs := #[.pointer (some ⟨b4944, 0, none⟩)]) rfl rfl) rfl rfl ?_
  refine WL.val (R_build (cells := #[.int .i64 (1 : Int), .func (.func 116) #[] #[.pointer (some ⟨b4944, 0, none⟩)]]) rfl (by kernel_rfl)) rfl rfl ?_
  refine WL.val (R_func (fs := #[]) (cs := #[.pointer (some ⟨b4944, 0, none⟩)]) rfl rfl) rfl rfl ?_
  refine WL.val (R_build (cells := #[.int .i64 (2 : Int), .func (.func 118) #[] #[.pointer (some ⟨b4944, 0, none⟩)]]) rfl (by kernel_rfl)) rfl rfl ?_
  refine WL.lit [.int .i64 (1 : Int), .func (.func 116) #[] #[.pointer (some ⟨b4944, 0, none⟩)], .int .i64 (2 : Int), .func (.func 118) #[] #[.pointer (some ⟨b4944, 0, none⟩)]] u198 rfl (by kernel_rfl) hS rfl ?_
  intro b4947 w hS
  obtain ⟨⟨r4948, r4949⟩, hr4950, h⟩ := bindS h
  try dsimp only at h
  refine WL.callR (Φ := fun v w => v = .tuple #[.int .i64 r4948, .bool r4949] ∧ Sta w0 M [Blk b4947 [.int .i64 (1 : Int), .func (.func 116) #[] #[.pointer (some ⟨b4944, 0, none⟩)], .int .i64 (2 : Int), .func (.func 118) #[] #[.pointer (some ⟨b4944, 0, none⟩)]] 197, Blk b4946 [.int .i64 (0 : Int), .int .i64 (-1 : Int), .int .i64 (-1 : Int)] 138, Blk b4945 [.int .i64 (0 : Int), .int .i64 (0 : Int), .int .i64 (0 : Int)] 138, Blk b4944 [.string p47.name, .slice A48 p47.features.length c49, .int .i64 p47.outputs, .slice A51 p47.base.length c52, .slice A54 p47.trees.length c55] 26] [FSl RTree A54 c55 p47.trees, FSl (RI .i64) A51 c52 p47.base, FSl RStr A48 c49 p47.features] w) e115 rfl rfl ?_ rfl ?_
  · have h := hr4950
    refine calls_enter (n := 0) Tryz.func115 rfl [(0, .slice (some ⟨b4947, 0, none⟩) 2 2)] rfl rfl ⟨rfl, trivial⟩ ?_
    refine WC.seq ?_
    refine WC.reg ?_
    refine WL.val (R_assign rfl) rfl rfl ?_
    refine WL.val (R_assign rfl) rfl rfl ?_
    refine WL.nil ?_
    refine WQ.thenC ?_
    refine WC.seq ?_
    refine WC.seq ?_
    refine WC.reg ?_
    refine WL.val (R_move rfl) rfl rfl ?_
    refine WL.val (R_lenS u198 rfl) rfl rfl ?_
    refine WL.val (R_move rfl) rfl rfl ?_
    refine WL.nil ?_
    refine WQ.thenC ?_
    refine WC.block ?_
    refine WC.loopR 64 ?_
    refine WR.step ?_
    refine WC.seq ?_
    refine WC.reg ?_
    refine WL.val (R_cmp rfl rfl rfl) rfl rfl ?_
    refine WL.nil ?_
    refine WQ.thenC ?_
    refine WC.seq ?_
    refine WC.condT rfl ?_
    refine WC.skip ?_
    refine WQ.thenC ?_
    refine WC.seq ?_
    refine WC.block ?_
    refine WC.seq ?_
    refine WC.reg ?_
    refine WL.val (R_indexB u198 z197 rfl rfl (by decide) (by decide)) rfl rfl ?_
    refine WL.val (R_loadA g197 rfl rfl (hS.cells 0 (o := 0) (m := 2) rfl rfl)) rfl rfl ?_
    refine WL.alloc _ z197 rfl hS rfl ?_
    intro b4951 w hS
    refine WL.storeB 0 [.int .i64 (1 : Int), .func (.func 116) #[] #[.pointer (some ⟨b4944, 0, none⟩)]] g197 hS rfl rfl rfl rfl rfl rfl rfl [.int .i64 (1 : Int), .func (.func 116) #[] #[.pointer (some ⟨b4944, 0, none⟩)]] rfl ?_
    intro w hS
    refine WL.nil ?_
    refine WQ.thenC ?_
    refine WC.seq ?_
    refine WC.reg ?_
    refine WL.val (R_fieldB o197_1 rfl) rfl rfl ?_
    refine WL.val (R_load1 g27 rfl (hS.cell 0 rfl rfl)) rfl rfl ?_
    obtain ⟨r4952, hr4953, h⟩ := bindS h
    refine WL.callR (Φ := fun v w => v = .bool r4952 ∧ Sta w0 M [Blk b4951 [.int .i64 (1 : Int), .func (.func 116) #[] #[.pointer (some ⟨b4944, 0, none⟩)]] 197, Blk b4947 [.int .i64 (1 : Int), .func (.func 116) #[] #[.pointer (some ⟨b4944, 0, none⟩)], .int .i64 (2 : Int), .func (.func 118) #[] #[.pointer (some ⟨b4944, 0, none⟩)]] 197, Blk b4946 [.int .i64 (0 : Int), .int .i64 (-1 : Int), .int .i64 (-1 : Int)] 138, Blk b4945 [.int .i64 (0 : Int), .int .i64 (0 : Int), .int .i64 (0 : Int)] 138, Blk b4944 [.string p47.name, .slice A48 p47.features.length c49, .int .i64 p47.outputs, .slice A51 p47.base.length c52, .slice A54 p47.trees.length c55] 26] [FSl RTree A54 c55 p47.trees, FSl (RI .i64) A51 c52 p47.base, FSl RStr A48 c49 p47.features] w) e116 rfl rfl ?_ rfl ?_
    · have h := hr4953
      refine calls_enter (n := 0) Tryz.func116 rfl [(0, .pointer (some ⟨b4944, 0, none⟩))] rfl rfl ⟨rfl, trivial⟩ ?_
      refine WC.seq ?_
      refine WC.reg ?_
      refine WL.val (R_assign rfl) rfl rfl ?_
      refine WL.nil ?_
      refine WQ.thenC ?_
      refine WC.seq ?_
      refine WC.reg ?_
      refine WL.val (R_fieldB o26_0 rfl) rfl rfl ?_
      refine WL.val (R_load1 g9 rfl (hS.cell 4 rfl rfl)) rfl rfl ?_
      obtain ⟨r4954, hr4955, h⟩ := bindS h
      refine WL.call e117 rfl rfl hS (scan_Name_ok (hS).mx_lt k p47.name  _ hr4955) rfl ?_
      intro v w hB hS hP
      obtain ⟨rfl⟩ := hP
      refine WL.val (R_assign rfl) rfl rfl ?_
      refine WL.nil ?_
      refine WQ.thenC ?_
      refine WC.ret ?_
      have hS0 := hS
      have hS := hS.pick [0, 1, 2, 3, 4] [0, 1, 2] rfl
      obtain rfl := Option.some.inj h
      exact ret_1 rfl rfl ⟨_, rfl, rfl, hS⟩
    rintro _ w ⟨rfl, hS⟩
    refine WL.val (R_not rfl) rfl rfl ?_
    refine WL.nil ?_
    refine WQ.thenC ?_
    refine WC.cond rfl (fun hb4956 => ?_) (fun hb4956 => ?_)
    · have h := ifT hb4956 h
      refine WC.seq ?_
      refine WC.reg ?_
      refine WL.val (R_fieldB o197_0 rfl) rfl rfl ?_
      refine WL.val (R_load1 g136 rfl (hS.cell 0 rfl rfl)) rfl rfl ?_
      refine WL.val (R_assign rfl) rfl rfl ?_
      refine WL.val (R_assign rfl) rfl rfl ?_
      refine WL.nil ?_
      refine WQ.thenC ?_
      refine WC.ret ?_
      refine WQ.blockR ?_
      refine WQ.thenR ?_
      refine WQ.thenR ?_
      refine WQ.blockR ?_
      refine WQ.thenR ?_
      have hS0 := hS
      have hS := hS.pick [1, 2, 3, 4] [0, 1, 2] rfl
      have h := Option.some.inj h
      obtain ⟨rfl, rfl⟩ := Prod.mk.inj h
      exact ret_2 rfl rfl rfl ⟨_, rfl, rfl, hS⟩
    · have h := ifF hb4956 h
      refine WC.skip ?_
      refine WQ.blockN ?_
      refine WQ.thenC ?_
      refine WC.reg ?_
      refine WL.val (R_ar rfl rfl rfl) rfl rfl ?_
      refine WL.val (R_move rfl) rfl rfl ?_
      refine WL.nil ?_
      refine WQ.thenW ?_
      refine WR.step ?_
      refine WC.seq ?_
      refine WC.reg ?_
      refine WL.val (R_cmp rfl rfl rfl) rfl rfl ?_
      refine WL.nil ?_
      refine WQ.thenC ?_
      refine WC.seq ?_
      refine WC.condT rfl ?_
      refine WC.skip ?_
      refine WQ.thenC ?_
      refine WC.seq ?_
      refine WC.block ?_
      refine WC.seq ?_
      refine WC.reg ?_
      refine WL.val (R_indexB u198 z197 rfl rfl (by decide) (by decide)) rfl rfl ?_
      refine WL.val (R_loadA g197 rfl rfl (hS.cells 1 (o := 2) (m := 2) rfl rfl)) rfl rfl ?_
      refine WL.alloc _ z197 rfl hS rfl ?_
      intro b4957 w hS
      refine WL.storeB 0 [.int .i64 (2 : Int), .func (.func 118) #[] #[.pointer (some ⟨b4944, 0, none⟩)]] g197 hS rfl rfl rfl rfl rfl rfl rfl [.int .i64 (2 : Int), .func (.func 118) #[] #[.pointer (some ⟨b4944, 0, none⟩)]] rfl ?_
      intro w hS
      refine WL.nil ?_
      refine WQ.thenC ?_
      refine WC.seq ?_
      refine WC.reg ?_
      refine WL.val (R_fieldB o197_1 rfl) rfl rfl ?_
      refine WL.val (R_load1 g27 rfl (hS.cell 0 rfl rfl)) rfl rfl ?_
      obtain ⟨r4958, hr4959, h⟩ := bindS h
      refine WL.callR (Φ := fun v w => v = .bool r4958 ∧ Sta w0 M [Blk b4957 [.int .i64 (2 : Int), .func (.func 118) #[] #[.pointer (some ⟨b4944, 0, none⟩)]] 197, Blk b4951 [.int .i64 (1 : Int), .func (.func 116) #[] #[.pointer (some ⟨b4944, 0, none⟩)]] 197, Blk b4947 [.int .i64 (1 : Int), .func (.func 116) #[] #[.pointer (some ⟨b4944, 0, none⟩)], .int .i64 (2 : Int), .func (.func 118) #[] #[.pointer (some ⟨b4944, 0, none⟩)]] 197, Blk b4946 [.int .i64 (0 : Int), .int .i64 (-1 : Int), .int .i64 (-1 : Int)] 138, Blk b4945 [.int .i64 (0 : Int), .int .i64 (0 : Int), .int .i64 (0 : Int)] 138, Blk b4944 [.string p47.name, .slice A48 p47.features.length c49, .int .i64 p47.outputs, .slice A51 p47.base.length c52, .slice A54 p47.trees.length c55] 26] [FSl RTree A54 c55 p47.trees, FSl (RI .i64) A51 c52 p47.base, FSl RStr A48 c49 p47.features] w) e118 rfl rfl ?_ rfl ?_
      · have h := hr4959
        refine calls_enter (n := 0) Tryz.func118 rfl [(0, .pointer (some ⟨b4944, 0, none⟩))] rfl rfl ⟨rfl, trivial⟩ ?_
        refine WC.seq ?_
        refine WC.reg ?_
        refine WL.val (R_assign rfl) rfl rfl ?_
        refine WL.nil ?_
        refine WQ.thenC ?_
        refine WC.seq ?_
        refine WC.reg ?_
        refine WL.val (R_fieldB o26_1 rfl) rfl rfl ?_
        refine WL.val (R_load1 g22 rfl (hS.cell 5 rfl rfl)) rfl rfl ?_
        refine WL.val (R_lenS u22 rfl) rfl rfl ?_
        refine WL.val (R_cmp rfl rfl rfl) rfl rfl ?_
        refine WL.val (R_move rfl) rfl rfl ?_
        rcases boolS h with ⟨hb4960, h⟩ | ⟨hb4960, h⟩
        · refine WL.gvalb rfl rfl rfl hb4960 (R_fieldB o26_1 rfl) rfl rfl ?_
          refine WL.gvalb rfl rfl rfl hb4960 (R_load1 g22 rfl (hS.cell 5 rfl rfl)) rfl rfl ?_
          refine WL.gvalb rfl rfl rfl hb4960 (R_lenS u22 rfl) rfl rfl ?_
          refine WL.gvalb rfl rfl rfl hb4960 (R_cmp rfl rfl rfl) rfl rfl ?_
          refine WL.val (R_pickTb rfl hb4960 rfl) rfl rfl ?_
          refine WL.val (R_assign rfl) rfl rfl ?_
          refine WL.nil ?_
          refine WQ.thenC ?_
          refine WC.ret ?_
          have hS0 := hS
          have hS := hS.pick [0, 1, 2, 3, 4, 5] [0, 1, 2] rfl
          obtain rfl := Option.some.inj h
          exact ret_1 rfl rfl ⟨_, rfl, rfl, hS⟩
        · refine WL.gskip rfl rfl rfl hb4960 rfl ?_
          refine WL.gskip rfl rfl rfl hb4960 rfl ?_
          refine WL.gskip rfl rfl rfl hb4960 rfl ?_
          refine WL.gskip rfl rfl rfl hb4960 rfl ?_
          refine WL.val (R_pickFb rfl hb4960 rfl) rfl rfl ?_
          refine WL.val (R_assign rfl) rfl rfl ?_
          refine WL.nil ?_
          refine WQ.thenC ?_
          refine WC.ret ?_
          have hS0 := hS
          have hS := hS.pick [0, 1, 2, 3, 4, 5] [0, 1, 2] rfl
          obtain rfl := Option.some.inj h
          exact ret_1 rfl rfl ⟨_, rfl, rfl, hS⟩
      rintro _ w ⟨rfl, hS⟩
      refine WL.val (R_not rfl) rfl rfl ?_
      refine WL.nil ?_
      refine WQ.thenC ?_
      refine WC.cond rfl (fun hb4961 => ?_) (fun hb4961 => ?_)
      · have h := ifT hb4961 h
        refine WC.seq ?_
        refine WC.reg ?_
        refine WL.val (R_fieldB o197_0 rfl) rfl rfl ?_
        refine WL.val (R_load1 g136 rfl (hS.cell 0 rfl rfl)) rfl rfl ?_
        refine WL.val (R_assign rfl) rfl rfl ?_
        refine WL.val (R_assign rfl) rfl rfl ?_
        refine WL.nil ?_
        refine WQ.thenC ?_
        refine WC.ret ?_
        refine WQ.blockR ?_
        refine WQ.thenR ?_
        refine WQ.thenR ?_
        refine WQ.blockR ?_
        refine WQ.thenR ?_
        have hS0 := hS
        have hS := hS.pick [2, 3, 4, 5] [0, 1, 2] rfl
        have h := Option.some.inj h
        obtain ⟨rfl, rfl⟩ := Prod.mk.inj h
        exact ret_2 rfl rfl rfl ⟨_, rfl, rfl, hS⟩
      · have h := ifF hb4961 h
        refine WC.skip ?_
        refine WQ.blockN ?_
        refine WQ.thenC ?_
        refine WC.reg ?_
        refine WL.val (R_ar rfl rfl rfl) rfl rfl ?_
        refine WL.val (R_move rfl) rfl rfl ?_
        refine WL.nil ?_
        refine WQ.thenW ?_
        refine WR.step ?_
        refine WC.seq ?_
        refine WC.reg ?_
        refine WL.val (R_cmp rfl rfl rfl) rfl rfl ?_
        refine WL.nil ?_
        refine WQ.thenC ?_
        refine WC.seq ?_
        refine WC.condF rfl ?_
        refine WC.exit ?_
        refine WQ.thenE ?_
        refine WQ.thenE ?_
        refine WQ.blockE ?_
        refine WQ.thenC ?_
        refine WC.seq ?_
        refine WC.reg ?_
        refine WL.val (R_assign rfl) rfl rfl ?_
        refine WL.val (R_assign rfl) rfl rfl ?_
        refine WL.nil ?_
        refine WQ.thenC ?_
        refine WC.ret ?_
        have hS0 := hS
        have hS := hS.pick [2, 3, 4, 5] [0, 1, 2] rfl
        have h := Option.some.inj h
        obtain ⟨rfl, rfl⟩ := Prod.mk.inj h
        exact ret_2 rfl rfl rfl ⟨_, rfl, rfl, hS⟩
  rintro _ w ⟨rfl, hS⟩
  refine WL.val (R_move rfl) rfl rfl ?_
  refine WL.val (R_extract rfl rfl) rfl rfl ?_
  refine WL.val (R_extract rfl rfl) rfl rfl ?_
  refine WL.val (R_assign rfl) rfl rfl ?_
  refine WL.val (R_assign rfl) rfl rfl ?_
  refine WL.nil ?_
  refine WQ.thenC ?_
  refine WC.seq ?_
  refine WC.reg ?_
  refine WL.val (R_move rfl) rfl rfl ?_
  refine WL.nil ?_
  refine WQ.thenC ?_
  refine WC.cond rfl (fun hb4962 => ?_) (fun hb4962 => ?_)
  · have h := ifT hb4962 h
    refine WC.seq ?_
    refine WC.reg ?_
    refine WL.val (R_move rfl) rfl rfl ?_
    refine WL.val (R_fieldB o138_0 rfl) rfl rfl ?_
    refine WL.storeB 1 [.int .i64 r4948] g136 hS rfl rfl rfl rfl rfl rfl rfl [.int .i64 r4948, .int .i64 (-1 : Int), .int .i64 (-1 : Int)] rfl ?_
    intro w hS
    refine WL.nil ?_
    refine WQ.thenC ?_
    refine WC.seq ?_
    refine WC.reg ?_
    refine WL.val (R_loadA g138 rfl rfl (hS.cells 1 (o := 0) (m := 3) rfl rfl)) rfl rfl ?_
    refine WL.storeB 2 [.int .i64 r4948, .int .i64 (-1 : Int), .int .i64 (-1 : Int)] g138 hS rfl rfl rfl rfl rfl rfl rfl [.int .i64 r4948, .int .i64 (-1 : Int), .int .i64 (-1 : Int)] rfl ?_
    intro w hS
    refine WL.nil ?_
    refine WQ.thenC ?_
    refine WC.ret ?_
    refine WQ.thenR ?_
    have hS0 := hS
    obtain rfl := Option.some.inj h
    exact ret_1 rfl (resV_B 2 hS0 rfl rfl g138 rfl) ⟨_, rfl, hS.bel, rfl⟩
  · have h := ifF hb4962 h
    refine WC.skip ?_
    refine WQ.thenC ?_
    refine WC.seq ?_
    refine WC.reg ?_
    refine WL.makeMap (fun a : ByteArray => .string a) (fun a : Int => .int .i64 a) hS rfl ?_
    intro b4963 w hS
    refine WL.alloc _ z98 rfl hS rfl ?_
    intro b4964 w hS
    refine WL.storeB 0 [.map (some b4963)] g98 hS rfl rfl rfl rfl rfl rfl rfl [.map (some b4963)] rfl ?_
    intro w hS
    refine WL.nil ?_
    refine WQ.thenC ?_
    obtain ⟨o5017, h5018, h5019⟩ := bindS h
    refine WC.seqM (fun env w => Fl.go () = o5017 ∧ env = [(1, .pointer (some ⟨b4944, 0, none⟩)), (2, .pointer (some ⟨b4945, 0, none⟩)), (3, .pointer (some ⟨b4946, 0, none⟩))] ∧ Sta w0 M [Blk b4944 [.string p47.name, .slice A48 p47.features.length c49, .int .i64 p47.outputs, .slice A51 p47.base.length c52, .slice A54 p47.trees.length c55] 26, Blk b4945 [.int .i64 (0 : Int), .int .i64 (0 : Int), .int .i64 (0 : Int)] 138, Blk b4946 [.int .i64 (0 : Int), .int .i64 (-1 : Int), .int .i64 (-1 : Int)] 138] [FSl RStr A48 c49 p47.features, FSl (RI .i64) A51 c52 p47.base, FSl RTree A54 c55 p47.trees] w) ?_ ?_
    · have h := h5018
      refine WC.seq ?_
      refine WC.reg ?_
      refine WL.val (R_fieldB o26_1 rfl) rfl rfl ?_
      refine WL.val (R_load1 g22 rfl (hS.cell 5 rfl rfl)) rfl rfl ?_
      refine WL.val (R_lenS u22 rfl) rfl rfl ?_
      refine WL.val (R_move rfl) rfl rfl ?_
      refine WL.nil ?_
      refine WQ.thenC ?_
      refine WC.block ?_
      have hS := hS.pick [5, 4, 3, 0, 1] [2, 1, 0] rfl
      refine WC.loopJ (fun m env w => ∃ (y5045 : List (ByteArray × Int)), ∃ (y5046 : Int), env = [(1, .pointer (some ⟨b4944, 0, none⟩)), (2, .pointer (some ⟨b4945, 0, none⟩)), (3, .pointer (some ⟨b4946, 0, none⟩)), (6, .pointer (some ⟨b4964, 0, none⟩)), (36, .slice A48 p47.features.length c49), (37, .int .i64 (p47.features.length : Int)), (38, .int .i64 y5046)] ∧ Sta w0 M [Blk b4944 [.string p47.name, .slice A48 p47.features.length c49, .int .i64 p47.outputs, .slice A51 p47.base.length c52, .slice A54 p47.trees.length c55] 26, Blk b4945 [.int .i64 (0 : Int), .int .i64 (0 : Int), .int .i64 (0 : Int)] 138, Blk b4946 [.int .i64 (0 : Int), .int .i64 (-1 : Int), .int .i64 (-1 : Int)] 138, Blk b4964 [.map (some b4963)] 98, MapR b4963 (fun a : ByteArray => .string a) (fun a : Int => .int .i64 a) y5045] [FSl RStr A48 c49 p47.features, FSl (RI .i64) A51 c52 p47.base, FSl RTree A54 c55 p47.trees] w ∧ rules_Check_l0 k p47 m y5045 y5046 = some o5017) k ⟨([] : List (ByteArray × Int)), (0 : Int), rfl, hS, h⟩ ⟨rfl, rfl, rfl, rfl, rfl, rfl, rfl, trivial⟩ (fun env w hI => ?_) (fun m env w hI => ?_)
      · obtain ⟨y5045, y5046, rfl, hS, h⟩ := hI
        rw [rules_Check_l0] at h
        cases h
      · obtain ⟨y5045, y5046, rfl, hS, h⟩ := hI
        rw [rules_Check_l0] at h
        refine WC.seq ?_
        refine WC.reg ?_
        refine WL.val (R_cmp rfl rfl rfl) rfl rfl ?_
        refine WL.nil ?_
        refine WQ.thenC ?_
        refine WC.seq ?_
        refine WC.cond rfl (fun hb5072 => ?_) (fun hb5072 => ?_)
        · have h := ifT hb5072 h
          refine WC.skip ?_
          refine WQ.thenC ?_
          refine WC.seq ?_
          refine WC.block ?_
          refine WC.seq ?_
          refine WC.reg ?_
          refine WL.val (R_move rfl) rfl rfl ?_
          obtain ⟨x5073, hx5074, h⟩ := bindS h
          obtain ⟨ad5075, cs5076, hA5077, hq5078, hK5079, hc5080⟩ := hS.sget 0 rfl (rdS hx5074).2.2
          obtain rfl := hK5079
          refine WL.val (R_indexAddr u22 z9 rfl rfl hA5077 (rdS hx5074).1 hq5078) rfl rfl ?_
          refine WL.val (R_load1 g9 rfl (hc5080 0 _ rfl)) rfl rfl ?_
          refine WL.alloc _ z9 rfl hS rfl ?_
          intro b5081 w hS
          refine WL.val (R_assign rfl) rfl rfl ?_
          refine WL.storeB 0 [.string x5073] g9 hS rfl rfl rfl rfl rfl rfl rfl [.string x5073] rfl ?_
          intro w hS
          refine WL.nil ?_
          refine WQ.thenC ?_
          refine WC.seq ?_
          refine WC.reg ?_
          refine WL.val (R_load1 g98 rfl (hS.cell 4 rfl rfl)) rfl rfl ?_
          refine WL.val (R_load1 g9 rfl (hS.cell 0 rfl rfl)) rfl rfl ?_
          refine WL.val (R_lookup 5 (0 : Int) u98 kt9 z3 hS rfl rfl rfl) rfl rfl ?_
          refine WL.val (R_ar rfl rfl rfl) rfl rfl ?_
          refine WL.mapUpdate (v := (IntKind.i64.wrap ((mget (0 : Int) y5045 x5073) + (1 : Int)))) 5 u98 kt9 hS rfl rfl rfl rfl ?_
          intro w hS
          refine WL.nil ?_
          refine WQ.thenC ?_
          refine WC.seq ?_
          refine WC.reg ?_
          refine WL.val (R_func (fs := #[]) (cs := #[.pointer (some ⟨b5081, 0, none⟩)]) rfl rfl) rfl rfl ?_
          refine WL.val (R_build (cells := #[.int .i64 (3 : Int), .func (.func 119) #[] #[.pointer (some ⟨b5081, 0, none⟩)]]) rfl (by kernel_rfl)) rfl rfl ?_
          refine WL.val (R_func (fs := #[]) (cs := #[.pointer (some ⟨b4964, 0, none⟩), .pointer (some ⟨b5081, 0, none⟩)]) rfl rfl) rfl rfl ?_
          refine WL.val (R_build (cells := #[.int .i64 (4 : Int), .func (.func 120) #[] #[.pointer (some ⟨b4964, 0, none⟩), .pointer (some ⟨b5081, 0, none⟩)]]) rfl (by kernel_rfl)) rfl rfl ?_
          refine WL.lit [.int .i64 (3 : Int), .func (.func 119) #[] #[.pointer (some ⟨b5081, 0, none⟩)], .int .i64 (4 : Int), .func (.func 120) #[] #[.pointer (some ⟨b4964, 0, none⟩), .pointer (some ⟨b5081, 0, none⟩)]] u198 rfl (by kernel_rfl) hS rfl ?_
          intro b5082 w hS
          obtain ⟨⟨r5083, r5084⟩, hr5085, h⟩ := bindS h
          try dsimp only at h
          refine WL.callR (Φ := fun v w => v = .tuple #[.int .i64 r5083, .bool r5084] ∧ Sta w0 M [Blk b5082 [.int .i64 (3 : Int), .func (.func 119) #[] #[.pointer (some ⟨b5081, 0, none⟩)], .int .i64 (4 : Int), .func (.func 120) #[] #[.pointer (some ⟨b4964, 0, none⟩), .pointer (some ⟨b5081, 0, none⟩)]] 197, Blk b5081 [.string x5073] 9, Blk b4944 [.string p47.name, .slice A48 p47.features.length c49, .int .i64 p47.outputs, .slice A51 p47.base.length c52, .slice A54 p47.trees.length c55] 26, Blk b4945 [.int .i64 (0 : Int), .int .i64 (0 : Int), .int .i64 (0 : Int)] 138, Blk b4946 [.int .i64 (0 : Int), .int .i64 (-1 : Int), .int .i64 (-1 : Int)] 138, Blk b4964 [.map (some b4963)] 98, MapR b4963 (fun a : ByteArray => .string a) (fun a : Int => .int .i64 a) (mput y5045 x5073 (IntKind.i64.wrap ((mget (0 : Int) y5045 x5073) + (1 : Int))))] [FSl RStr A48 c49 p47.features, FSl (RI .i64) A51 c52 p47.base, FSl RTree A54 c55 p47.trees] w) e115 rfl rfl ?_ rfl ?_
          · have h := hr5085
            refine calls_enter (n := 0) Tryz.func115 rfl [(0, .slice (some ⟨b5082, 0, none⟩) 2 2)] rfl rfl ⟨rfl, trivial⟩ ?_
            refine WC.seq ?_
            refine WC.reg ?_
            refine WL.val (R_assign rfl) rfl rfl ?_
            refine WL.val (R_assign rfl) rfl rfl ?_
            refine WL.nil ?_
            refine WQ.thenC ?_
            refine WC.seq ?_
            refine WC.seq ?_
            refine WC.reg ?_
            refine WL.val (R_move rfl) rfl rfl ?_
            refine WL.val (R_lenS u198 rfl) rfl rfl ?_
            refine WL.val (R_move rfl) rfl rfl ?_
            refine WL.nil ?_
            refine WQ.thenC ?_
            refine WC.block ?_
            refine WC.loopR 64 ?_
            refine WR.step ?_
            refine WC.seq ?_
            refine WC.reg ?_
            refine WL.val (R_cmp rfl rfl rfl) rfl rfl ?_
            refine WL.nil ?_
            refine WQ.thenC ?_
            refine WC.seq ?_
            refine WC.condT rfl ?_
            refine WC.skip ?_
            refine WQ.thenC ?_
            refine WC.seq ?_
            refine WC.block ?_
            refine WC.seq ?_
            refine WC.reg ?_
            refine WL.val (R_indexB u198 z197 rfl rfl (by decide) (by decide)) rfl rfl ?_
            refine WL.val (R_loadA g197 rfl rfl (hS.cells 0 (o := 0) (m := 2) rfl rfl)) rfl rfl ?_
            refine WL.alloc _ z197 rfl hS rfl ?_
            intro b5086 w hS
            refine WL.storeB 0 [.int .i64 (3 : Int), .func (.func 119) #[] #[.pointer (some ⟨b5081, 0, none⟩)]] g197 hS rfl rfl rfl rfl rfl rfl rfl [.int .i64 (3 : Int), .func (.func 119) #[] #[.pointer (some ⟨b5081, 0, none⟩)]] rfl ?_
            intro w hS
            refine WL.nil ?_
            refine WQ.thenC ?_
            refine WC.seq ?_
            refine WC.reg ?_
            refine WL.val (R_fieldB o197_1 rfl) rfl rfl ?_
            refine WL.val (R_load1 g27 rfl (hS.cell 0 rfl rfl)) rfl rfl ?_
            obtain ⟨r5087, hr5088, h⟩ := bindS h
            refine WL.callR (Φ := fun v w => v = .bool r5087 ∧ Sta w0 M [Blk b5086 [.int .i64 (3 : Int), .func (.func 119) #[] #[.pointer (some ⟨b5081, 0, none⟩)]] 197, Blk b5082 [.int .i64 (3 : Int), .func (.func 119) #[] #[.pointer (some ⟨b5081, 0, none⟩)], .int .i64 (4 : Int), .func (.func 120) #[] #[.pointer (some ⟨b4964, 0, none⟩), .pointer (some ⟨b5081, 0, none⟩)]] 197, Blk b5081 [.string x5073] 9, Blk b4944 [.string p47.name, .slice A48 p47.features.length c49, .int .i64 p47.outputs, .slice A51 p47.base.length c52, .slice A54 p47.trees.length c55] 26, Blk b4945 [.int .i64 (0 : Int), .int .i64 (0 : Int), .int .i64 (0 : Int)] 138, Blk b4946 [.int .i64 (0 : Int), .int .i64 (-1 : Int), .int .i64 (-1 : Int)] 138, Blk b4964 [.map (some b4963)] 98, MapR b4963 (fun a : ByteArray => .string a) (fun a : Int => .int .i64 a) (mput y5045 x5073 (IntKind.i64.wrap ((mget (0 : Int) y5045 x5073) + (1 : Int))))] [FSl RStr A48 c49 p47.features, FSl (RI .i64) A51 c52 p47.base, FSl RTree A54 c55 p47.trees] w) e119 rfl rfl ?_ rfl ?_
            · have h := hr5088
              refine calls_enter (n := 0) Tryz.func119 rfl [(0, .pointer (some ⟨b5081, 0, none⟩))] rfl rfl ⟨rfl, trivial⟩ ?_
              refine WC.seq ?_
              refine WC.reg ?_
              refine WL.val (R_assign rfl) rfl rfl ?_
              refine WL.nil ?_
              refine WQ.thenC ?_
              refine WC.seq ?_
              refine WC.reg ?_
              refine WL.val (R_load1 g9 rfl (hS.cell 2 rfl rfl)) rfl rfl ?_
              obtain ⟨r5089, hr5090, h⟩ := bindS h
              refine WL.call e117 rfl rfl hS (scan_Name_ok (hS).mx_lt k x5073  _ hr5090) rfl ?_
              intro v w hB hS hP
              obtain ⟨rfl⟩ := hP
              refine WL.val (R_assign rfl) rfl rfl ?_
              refine WL.nil ?_
              refine WQ.thenC ?_
              refine WC.ret ?_
              have hS0 := hS
              have hS := hS.pick [0, 1, 2, 3, 4, 5, 6, 7] [0, 1, 2] rfl
              obtain rfl := Option.some.inj h
              exact ret_1 rfl rfl ⟨_, rfl, rfl, hS⟩
            rintro _ w ⟨rfl, hS⟩
            refine WL.val (R_not rfl) rfl rfl ?_
            refine WL.nil ?_
            refine WQ.thenC ?_
            refine WC.cond rfl (fun hb5091 => ?_) (fun hb5091 => ?_)
            · have h := ifT hb5091 h
              refine WC.seq ?_
              refine WC.reg ?_
              refine WL.val (R_fieldB o197_0 rfl) rfl rfl ?_
              refine WL.val (R_load1 g136 rfl (hS.cell 0 rfl rfl)) rfl rfl ?_
              refine WL.val (R_assign rfl) rfl rfl ?_
              refine WL.val (R_assign rfl) rfl rfl ?_
              refine WL.nil ?_
              refine WQ.thenC ?_
              refine WC.ret ?_
              refine WQ.blockR ?_
              refine WQ.thenR ?_
              refine WQ.thenR ?_
              refine WQ.blockR ?_
              refine WQ.thenR ?_
              have hS0 := hS
              have hS := hS.pick [1, 2, 3, 4, 5, 6, 7] [0, 1, 2] rfl
              have h := Option.some.inj h
              obtain ⟨rfl, rfl⟩ := Prod.mk.inj h
              exact ret_2 rfl rfl rfl ⟨_, rfl, rfl, hS⟩
            · have h := ifF hb5091 h
              refine WC.skip ?_
              refine WQ.blockN ?_
              refine WQ.thenC ?_
              refine WC.reg ?_
              refine WL.val (R_ar rfl rfl rfl) rfl rfl ?_
              refine WL.val (R_move rfl) rfl rfl ?_
              refine WL.nil ?_
              refine WQ.thenW ?_
              refine WR.step ?_
              refine WC.seq ?_
              refine WC.reg ?_
              refine WL.val (R_cmp rfl rfl rfl) rfl rfl ?_
              refine WL.nil ?_
              refine WQ.thenC ?_
              refine WC.seq ?_
              refine WC.condT rfl ?_
              refine WC.skip ?_
              refine WQ.thenC ?_
              refine WC.seq ?_
              refine WC.block ?_
              refine WC.seq ?_
              refine WC.reg ?_
              refine WL.val (R_indexB u198 z197 rfl rfl (by decide) (by decide)) rfl rfl ?_
              refine WL.val (R_loadA g197 rfl rfl (hS.cells 1 (o := 2) (m := 2) rfl rfl)) rfl rfl ?_
              refine WL.alloc _ z197 rfl hS rfl ?_
              intro b5092 w hS
              refine WL.storeB 0 [.int .i64 (4 : Int), .func (.func 120) #[] #[.pointer (some ⟨b4964, 0, none⟩), .pointer (some ⟨b5081, 0, none⟩)]] g197 hS rfl rfl rfl rfl rfl rfl rfl [.int .i64 (4 : Int), .func (.func 120) #[] #[.pointer (some ⟨b4964, 0, none⟩), .pointer (some ⟨b5081, 0, none⟩)]] rfl ?_
              intro w hS
              refine WL.nil ?_
              refine WQ.thenC ?_
              refine WC.seq ?_
              refine WC.reg ?_
              refine WL.val (R_fieldB o197_1 rfl) rfl rfl ?_
              refine WL.val (R_load1 g27 rfl (hS.cell 0 rfl rfl)) rfl rfl ?_
              obtain ⟨r5093, hr5094, h⟩ := bindS h
              refine WL.callR (Φ := fun v w => v = .bool r5093 ∧ Sta w0 M [Blk b5092 [.int .i64 (4 : Int), .func (.func 120) #[] #[.pointer (some ⟨b4964, 0, none⟩), .pointer (some ⟨b5081, 0, none⟩)]] 197, Blk b5086 [.int .i64 (3 : Int), .func (.func 119) #[] #[.pointer (some ⟨b5081, 0, none⟩)]] 197, Blk b5082 [.int .i64 (3 : Int), .func (.func 119) #[] #[.pointer (some ⟨b5081, 0, none⟩)], .int .i64 (4 : Int), .func (.func 120) #[] #[.pointer (some ⟨b4964, 0, none⟩), .pointer (some ⟨b5081, 0, none⟩)]] 197, Blk b5081 [.string x5073] 9, Blk b4944 [.string p47.name, .slice A48 p47.features.length c49, .int .i64 p47.outputs, .slice A51 p47.base.length c52, .slice A54 p47.trees.length c55] 26, Blk b4945 [.int .i64 (0 : Int), .int .i64 (0 : Int), .int .i64 (0 : Int)] 138, Blk b4946 [.int .i64 (0 : Int), .int .i64 (-1 : Int), .int .i64 (-1 : Int)] 138, Blk b4964 [.map (some b4963)] 98, MapR b4963 (fun a : ByteArray => .string a) (fun a : Int => .int .i64 a) (mput y5045 x5073 (IntKind.i64.wrap ((mget (0 : Int) y5045 x5073) + (1 : Int))))] [FSl RStr A48 c49 p47.features, FSl (RI .i64) A51 c52 p47.base, FSl RTree A54 c55 p47.trees] w) e120 rfl rfl ?_ rfl ?_
              · have h := hr5094
                refine calls_enter (n := 0) Tryz.func120 rfl [(0, .pointer (some ⟨b4964, 0, none⟩)), (1, .pointer (some ⟨b5081, 0, none⟩))] rfl rfl ⟨rfl, rfl, trivial⟩ ?_
                refine WC.seq ?_
                refine WC.reg ?_
                refine WL.val (R_assign rfl) rfl rfl ?_
                refine WL.nil ?_
                refine WQ.thenC ?_
                refine WC.seq ?_
                refine WC.reg ?_
                refine WL.val (R_load1 g98 rfl (hS.cell 7 rfl rfl)) rfl rfl ?_
                refine WL.val (R_load1 g9 rfl (hS.cell 3 rfl rfl)) rfl rfl ?_
                refine WL.val (R_lookup 8 (0 : Int) u98 kt9 z3 hS rfl rfl rfl) rfl rfl ?_
                refine WL.val (R_cmp rfl rfl rfl) rfl rfl ?_
                refine WL.val (R_assign rfl) rfl rfl ?_
                refine WL.nil ?_
                refine WQ.thenC ?_
                refine WC.ret ?_
                have hS0 := hS
                have hS := hS.pick [0, 1, 2, 3, 4, 5, 6, 7, 8] [0, 1, 2] rfl
                obtain rfl := Option.some.inj h
                exact ret_1 rfl rfl ⟨_, rfl, rfl, hS⟩
              rintro _ w ⟨rfl, hS⟩
              refine WL.val (R_not rfl) rfl rfl ?_
              refine WL.nil ?_
              refine WQ.thenC ?_
              refine WC.cond rfl (fun hb5095 => ?_) (fun hb5095 => ?_)
              · have h := ifT hb5095 h
                refine WC.seq ?_
                refine WC.reg ?_
                refine WL.val (R_fieldB o197_0 rfl) rfl rfl ?_
                refine WL.val (R_load1 g136 rfl (hS.cell 0 rfl rfl)) rfl rfl ?_
                refine WL.val (R_assign rfl) rfl rfl ?_
                refine WL.val (R_assign rfl) rfl rfl ?_
                refine WL.nil ?_
                refine WQ.thenC ?_
                refine WC.ret ?_
                refine WQ.blockR ?_
                refine WQ.thenR ?_
                refine WQ.thenR ?_
                refine WQ.blockR ?_
                refine WQ.thenR ?_
                have hS0 := hS
                have hS := hS.pick [2, 3, 4, 5, 6, 7, 8] [0, 1, 2] rfl
                have h := Option.some.inj h
                obtain ⟨rfl, rfl⟩ := Prod.mk.inj h
                exact ret_2 rfl rfl rfl ⟨_, rfl, rfl, hS⟩
              · have h := ifF hb5095 h
                refine WC.skip ?_
                refine WQ.blockN ?_
                refine WQ.thenC ?_
                refine WC.reg ?_
                refine WL.val (R_ar rfl rfl rfl) rfl rfl ?_
                refine WL.val (R_move rfl) rfl rfl ?_
                refine WL.nil ?_
                refine WQ.thenW ?_
                refine WR.step ?_
                refine WC.seq ?_
                refine WC.reg ?_
                refine WL.val (R_cmp rfl rfl rfl) rfl rfl ?_
                refine WL.nil ?_
                refine WQ.thenC ?_
                refine WC.seq ?_
                refine WC.condF rfl ?_
                refine WC.exit ?_
                refine WQ.thenE ?_
                refine WQ.thenE ?_
                refine WQ.blockE ?_
                refine WQ.thenC ?_
                refine WC.seq ?_
                refine WC.reg ?_
                refine WL.val (R_assign rfl) rfl rfl ?_
                refine WL.val (R_assign rfl) rfl rfl ?_
                refine WL.nil ?_
                refine WQ.thenC ?_
                refine WC.ret ?_
                have hS0 := hS
                have hS := hS.pick [2, 3, 4, 5, 6, 7, 8] [0, 1, 2] rfl
                have h := Option.some.inj h
                obtain ⟨rfl, rfl⟩ := Prod.mk.inj h
                exact ret_2 rfl rfl rfl ⟨_, rfl, rfl, hS⟩
          rintro _ w ⟨rfl, hS⟩
          refine WL.val (R_move rfl) rfl rfl ?_
          refine WL.val (R_extract rfl rfl) rfl rfl ?_
          refine WL.val (R_extract rfl rfl) rfl rfl ?_
          refine WL.val (R_assign rfl) rfl rfl ?_
          refine WL.val (R_assign rfl) rfl rfl ?_
          refine WL.nil ?_
          refine WQ.thenC ?_
          refine WC.seq ?_
          refine WC.reg ?_
          refine WL.val (R_move rfl) rfl rfl ?_
          refine WL.nil ?_
          refine WQ.thenC ?_
          refine WC.cond rfl (fun hb5096 => ?_) (fun hb5096 => ?_)
          · have h := ifT hb5096 h
            refine WC.seq ?_
            refine WC.reg ?_
            refine WL.val (R_move rfl) rfl rfl ?_
            refine WL.val (R_move rfl) rfl rfl ?_
            refine WL.val (R_build (cells := #[.int .i64 r5083, .int .i64 (-1 : Int), .int .i64 y5046]) rfl (by kernel_rfl)) rfl rfl ?_
            refine WL.storeB 3 [.int .i64 r5083, .int .i64 (-1 : Int), .int .i64 y5046] g138 hS rfl rfl rfl rfl rfl rfl rfl [.int .i64 r5083, .int .i64 (-1 : Int), .int .i64 y5046] rfl ?_
            intro w hS
            refine WL.nil ?_
            refine WQ.thenC ?_
            refine WC.ret ?_
            refine WQ.blockR ?_
            refine WQ.thenR ?_
            refine WQ.thenR ?_
            refine WQ.blockR ?_
            refine WQ.thenR ?_
            obtain ⟨_, hr, rfl⟩ := mapS h
            have h := hr.trans h5019
            have hS0 := hS
            obtain rfl := Option.some.inj h
            exact ret_1 rfl (resV_B 3 hS0 rfl rfl g138 rfl) ⟨_, rfl, hS.bel, rfl⟩
          · have h := ifF hb5096 h
            refine WC.skip ?_
            refine WQ.blockN ?_
            refine WQ.thenC ?_
            refine WC.reg ?_
            refine WL.val (R_ar rfl rfl rfl) rfl rfl ?_
            refine WL.val (R_move rfl) rfl rfl ?_
            refine WL.nil ?_
            have hS := hS.pick [2, 3, 4, 5, 6] [0, 1, 2] rfl
            exact WQ.toJ ⟨(mput y5045 x5073 (IntKind.i64.wrap ((mget (0 : Int) y5045 x5073) + (1 : Int)))), (IntKind.i64.wrap (y5046 + (1 : Int))), rfl, hS, h⟩ ⟨rfl, rfl, rfl, rfl, rfl, rfl, rfl, trivial⟩
        · have h := ifF hb5072 h
          refine WC.exit ?_
          refine WQ.thenE ?_
          refine WQ.thenE ?_
          refine WQ.blockE ?_
          have hS := hS.pick [0, 1, 2] [0, 1, 2] rfl
          exact WQ.toJ ⟨Option.some.inj h, rfl, hS⟩ ⟨rfl, rfl, rfl, trivial⟩
    · rintro _ w ⟨rfl, rfl, hS⟩
      have h := h5019
      try dsimp only at h
      refine WC.seq ?_
      refine WC.seq ?_
      refine WC.reg ?_
      refine WL.val (R_func (fs := #[]) (cs := #[.pointer (some ⟨b4944, 0, none⟩)]) rfl rfl) rfl rfl ?_
      refine WL.val (R_build (cells := #[.int .i64 (5 : Int), .func (.func 121) #[] #[.pointer (some ⟨b4944, 0, none⟩)]]) rfl (by kernel_rfl)) rfl rfl ?_
      refine WL.val (R_func (fs := #[]) (cs := #[.pointer (some ⟨b4944, 0, none⟩)]) rfl rfl) rfl rfl ?_
      refine WL.val (R_build (cells := #[.int .i64 (6 : Int), .func (.func 122) #[] #[.pointer (some ⟨b4944, 0, none⟩)]]) rfl (by kernel_rfl)) rfl rfl ?_
      refine WL.val (R_func (fs := #[]) (cs := #[.pointer (some ⟨b4944, 0, none⟩)]) rfl rfl) rfl rfl ?_
      refine WL.val (R_build (cells := #[.int .i64 (7 : Int), .func (.func 123) #[] #[.pointer (some ⟨b4944, 0, none⟩)]]) rfl (by kernel_rfl)) rfl rfl ?_
      refine WL.lit [.int .i64 (5 : Int), .func (.func 121) #[] #[.pointer (some ⟨b4944, 0, none⟩)], .int .i64 (6 : Int), .func (.func 122) #[] #[.pointer (some ⟨b4944, 0, none⟩)], .int .i64 (7 : Int), .func (.func 123) #[] #[.pointer (some ⟨b4944, 0, none⟩)]] u198 rfl (by kernel_rfl) hS rfl ?_
      intro b5097 w hS
      obtain ⟨⟨r5098, r5099⟩, hr5100, h⟩ := bindS h
      try dsimp only at h
      refine WL.callR (Φ := fun v w => v = .tuple #[.int .i64 r5098, .bool r5099] ∧ Sta w0 M [Blk b5097 [.int .i64 (5 : Int), .func (.func 121) #[] #[.pointer (some ⟨b4944, 0, none⟩)], .int .i64 (6 : Int), .func (.func 122) #[] #[.pointer (some ⟨b4944, 0, none⟩)], .int .i64 (7 : Int), .func (.func 123) #[] #[.pointer (some ⟨b4944, 0, none⟩)]] 197, Blk b4944 [.string p47.name, .slice A48 p47.features.length c49, .int .i64 p47.outputs, .slice A51 p47.base.length c52, .slice A54 p47.trees.length c55] 26, Blk b4945 [.int .i64 (0 : Int), .int .i64 (0 : Int), .int .i64 (0 : Int)] 138, Blk b4946 [.int .i64 (0 : Int), .int .i64 (-1 : Int), .int .i64 (-1 : Int)] 138] [FSl RStr A48 c49 p47.features, FSl (RI .i64) A51 c52 p47.base, FSl RTree A54 c55 p47.trees] w) e115 rfl rfl ?_ rfl ?_
      · have h := hr5100
        refine calls_enter (n := 0) Tryz.func115 rfl [(0, .slice (some ⟨b5097, 0, none⟩) 3 3)] rfl rfl ⟨rfl, trivial⟩ ?_
        refine WC.seq ?_
        refine WC.reg ?_
        refine WL.val (R_assign rfl) rfl rfl ?_
        refine WL.val (R_assign rfl) rfl rfl ?_
        refine WL.nil ?_
        refine WQ.thenC ?_
        refine WC.seq ?_
        refine WC.seq ?_
        refine WC.reg ?_
        refine WL.val (R_move rfl) rfl rfl ?_
        refine WL.val (R_lenS u198 rfl) rfl rfl ?_
        refine WL.val (R_move rfl) rfl rfl ?_
        refine WL.nil ?_
        refine WQ.thenC ?_
        refine WC.block ?_
        refine WC.loopR 64 ?_
        refine WR.step ?_
        refine WC.seq ?_
        refine WC.reg ?_
        refine WL.val (R_cmp rfl rfl rfl) rfl rfl ?_
        refine WL.nil ?_
        refine WQ.thenC ?_
        refine WC.seq ?_
        refine WC.condT rfl ?_
        refine WC.skip ?_
        refine WQ.thenC ?_
        refine WC.seq ?_
        refine WC.block ?_
        refine WC.seq ?_
        refine WC.reg ?_
        refine WL.val (R_indexB u198 z197 rfl rfl (by decide) (by decide)) rfl rfl ?_
        refine WL.val (R_loadA g197 rfl rfl (hS.cells 0 (o := 0) (m := 2) rfl rfl)) rfl rfl ?_
        refine WL.alloc _ z197 rfl hS rfl ?_
        intro b5101 w hS
        refine WL.storeB 0 [.int .i64 (5 : Int), .func (.func 121) #[] #[.pointer (some ⟨b4944, 0, none⟩)]] g197 hS rfl rfl rfl rfl rfl rfl rfl [.int .i64 (5 : Int), .func (.func 121) #[] #[.pointer (some ⟨b4944, 0, none⟩)]] rfl ?_
        intro w hS
        refine WL.nil ?_
        refine WQ.thenC ?_
        refine WC.seq ?_
        refine WC.reg ?_
        refine WL.val (R_fieldB o197_1 rfl) rfl rfl ?_
        refine WL.val (R_load1 g27 rfl (hS.cell 0 rfl rfl)) rfl rfl ?_
        obtain ⟨r5102, hr5103, h⟩ := bindS h
        refine WL.callR (Φ := fun v w => v = .bool r5102 ∧ Sta w0 M [Blk b5101 [.int .i64 (5 : Int), .func (.func 121) #[] #[.pointer (some ⟨b4944, 0, none⟩)]] 197, Blk b5097 [.int .i64 (5 : Int), .func (.func 121) #[] #[.pointer (some ⟨b4944, 0, none⟩)], .int .i64 (6 : Int), .func (.func 122) #[] #[.pointer (some ⟨b4944, 0, none⟩)], .int .i64 (7 : Int), .func (.func 123) #[] #[.pointer (some ⟨b4944, 0, none⟩)]] 197, Blk b4944 [.string p47.name, .slice A48 p47.features.length c49, .int .i64 p47.outputs, .slice A51 p47.base.length c52, .slice A54 p47.trees.length c55] 26, Blk b4945 [.int .i64 (0 : Int), .int .i64 (0 : Int), .int .i64 (0 : Int)] 138, Blk b4946 [.int .i64 (0 : Int), .int .i64 (-1 : Int), .int .i64 (-1 : Int)] 138] [FSl RStr A48 c49 p47.features, FSl (RI .i64) A51 c52 p47.base, FSl RTree A54 c55 p47.trees] w) e121 rfl rfl ?_ rfl ?_
        · have h := hr5103
          refine calls_enter (n := 0) Tryz.func121 rfl [(0, .pointer (some ⟨b4944, 0, none⟩))] rfl rfl ⟨rfl, trivial⟩ ?_
          refine WC.seq ?_
          refine WC.reg ?_
          refine WL.val (R_assign rfl) rfl rfl ?_
          refine WL.nil ?_
          refine WQ.thenC ?_
          refine WC.seq ?_
          refine WC.reg ?_
          refine WL.val (R_fieldB o26_2 rfl) rfl rfl ?_
          refine WL.val (R_load1 g3 rfl (hS.cell 2 rfl rfl)) rfl rfl ?_
          refine WL.val (R_cmp rfl rfl rfl) rfl rfl ?_
          refine WL.val (R_move rfl) rfl rfl ?_
          rcases boolS h with ⟨hb5104, h⟩ | ⟨hb5104, h⟩
          · refine WL.gvalb rfl rfl rfl hb5104 (R_fieldB o26_2 rfl) rfl rfl ?_
            refine WL.gvalb rfl rfl rfl hb5104 (R_load1 g3 rfl (hS.cell 2 rfl rfl)) rfl rfl ?_
            refine WL.gvalb rfl rfl rfl hb5104 (R_cmp rfl rfl rfl) rfl rfl ?_
            refine WL.val (R_pickTb rfl hb5104 rfl) rfl rfl ?_
            refine WL.val (R_assign rfl) rfl rfl ?_
            refine WL.nil ?_
            refine WQ.thenC ?_
            refine WC.ret ?_
            have hS0 := hS
            have hS := hS.pick [0, 1, 2, 3, 4] [0, 1, 2] rfl
            obtain rfl := Option.some.inj h
            exact ret_1 rfl rfl ⟨_, rfl, rfl, hS⟩
          · refine WL.gskip rfl rfl rfl hb5104 rfl ?_
            refine WL.gskip rfl rfl rfl hb5104 rfl ?_
            refine WL.gskip rfl rfl rfl hb5104 rfl ?_
            refine WL.val (R_pickFb rfl hb5104 rfl) rfl rfl ?_
            refine WL.val (R_assign rfl) rfl rfl ?_
            refine WL.nil ?_
            refine WQ.thenC ?_
            refine WC.ret ?_
            have hS0 := hS
            have hS := hS.pick [0, 1, 2, 3, 4] [0, 1, 2] rfl
            obtain rfl := Option.some.inj h
            exact ret_1 rfl rfl ⟨_, rfl, rfl, hS⟩
        rintro _ w ⟨rfl, hS⟩
        refine WL.val (R_not rfl) rfl rfl ?_
        refine WL.nil ?_
        refine WQ.thenC ?_
        refine WC.cond rfl (fun hb5105 => ?_) (fun hb5105 => ?_)
        · have h := ifT hb5105 h
          refine WC.seq ?_
          refine WC.reg ?_
          refine WL.val (R_fieldB o197_0 rfl) rfl rfl ?_
          refine WL.val (R_load1 g136 rfl (hS.cell 0 rfl rfl)) rfl rfl ?_
          refine WL.val (R_assign rfl) rfl rfl ?_
          refine WL.val (R_assign rfl) rfl rfl ?_
          refine WL.nil ?_
          refine WQ.thenC ?_
          refine WC.ret ?_
          refine WQ.blockR ?_
          refine WQ.thenR ?_
          refine WQ.thenR ?_
          refine WQ.blockR ?_
          refine WQ.thenR ?_
          have hS0 := hS
          have hS := hS.pick [1, 2, 3, 4] [0, 1, 2] rfl
          have h := Option.some.inj h
          obtain ⟨rfl, rfl⟩ := Prod.mk.inj h
          exact ret_2 rfl rfl rfl ⟨_, rfl, rfl, hS⟩
        · have h := ifF hb5105 h
          refine WC.skip ?_
          refine WQ.blockN ?_
          refine WQ.thenC ?_
          refine WC.reg ?_
          refine WL.val (R_ar rfl rfl rfl) rfl rfl ?_
          refine WL.val (R_move rfl) rfl rfl ?_
          refine WL.nil ?_
          refine WQ.thenW ?_
          refine WR.step ?_
          refine WC.seq ?_
          refine WC.reg ?_
          refine WL.val (R_cmp rfl rfl rfl) rfl rfl ?_
          refine WL.nil ?_
          refine WQ.thenC ?_
          refine WC.seq ?_
          refine WC.condT rfl ?_
          refine WC.skip ?_
          refine WQ.thenC ?_
          refine WC.seq ?_
          refine WC.block ?_
          refine WC.seq ?_
          refine WC.reg ?_
          refine WL.val (R_indexB u198 z197 rfl rfl (by decide) (by decide)) rfl rfl ?_
          refine WL.val (R_loadA g197 rfl rfl (hS.cells 1 (o := 2) (m := 2) rfl rfl)) rfl rfl ?_
          refine WL.alloc _ z197 rfl hS rfl ?_
          intro b5106 w hS
          refine WL.storeB 0 [.int .i64 (6 : Int), .func (.func 122) #[] #[.pointer (some ⟨b4944, 0, none⟩)]] g197 hS rfl rfl rfl rfl rfl rfl rfl [.int .i64 (6 : Int), .func (.func 122) #[] #[.pointer (some ⟨b4944, 0, none⟩)]] rfl ?_
          intro w hS
          refine WL.nil ?_
          refine WQ.thenC ?_
          refine WC.seq ?_
          refine WC.reg ?_
          refine WL.val (R_fieldB o197_1 rfl) rfl rfl ?_
          refine WL.val (R_load1 g27 rfl (hS.cell 0 rfl rfl)) rfl rfl ?_
          obtain ⟨r5107, hr5108, h⟩ := bindS h
          refine WL.callR (Φ := fun v w => v = .bool r5107 ∧ Sta w0 M [Blk b5106 [.int .i64 (6 : Int), .func (.func 122) #[] #[.pointer (some ⟨b4944, 0, none⟩)]] 197, Blk b5101 [.int .i64 (5 : Int), .func (.func 121) #[] #[.pointer (some ⟨b4944, 0, none⟩)]] 197, Blk b5097 [.int .i64 (5 : Int), .func (.func 121) #[] #[.pointer (some ⟨b4944, 0, none⟩)], .int .i64 (6 : Int), .func (.func 122) #[] #[.pointer (some ⟨b4944, 0, none⟩)], .int .i64 (7 : Int), .func (.func 123) #[] #[.pointer (some ⟨b4944, 0, none⟩)]] 197, Blk b4944 [.string p47.name, .slice A48 p47.features.length c49, .int .i64 p47.outputs, .slice A51 p47.base.length c52, .slice A54 p47.trees.length c55] 26, Blk b4945 [.int .i64 (0 : Int), .int .i64 (0 : Int), .int .i64 (0 : Int)] 138, Blk b4946 [.int .i64 (0 : Int), .int .i64 (-1 : Int), .int .i64 (-1 : Int)] 138] [FSl RStr A48 c49 p47.features, FSl (RI .i64) A51 c52 p47.base, FSl RTree A54 c55 p47.trees] w) e122 rfl rfl ?_ rfl ?_
          · have h := hr5108
            refine calls_enter (n := 0) Tryz.func122 rfl [(0, .pointer (some ⟨b4944, 0, none⟩))] rfl rfl ⟨rfl, trivial⟩ ?_
            refine WC.seq ?_
            refine WC.reg ?_
            refine WL.val (R_assign rfl) rfl rfl ?_
            refine WL.nil ?_
            refine WQ.thenC ?_
            refine WC.seq ?_
            refine WC.reg ?_
            refine WL.val (R_fieldB o26_3 rfl) rfl rfl ?_
            refine WL.val (R_load1 g23 rfl (hS.cell 3 rfl rfl)) rfl rfl ?_
            refine WL.val (R_lenS u23 rfl) rfl rfl ?_
            refine WL.val (R_fieldB o26_2 rfl) rfl rfl ?_
            refine WL.val (R_load1 g3 rfl (hS.cell 3 rfl rfl)) rfl rfl ?_
            refine WL.val (R_cmp rfl rfl rfl) rfl rfl ?_
            refine WL.val (R_assign rfl) rfl rfl ?_
            refine WL.nil ?_
            refine WQ.thenC ?_
            refine WC.ret ?_
            have hS0 := hS
            have hS := hS.pick [0, 1, 2, 3, 4, 5] [0, 1, 2] rfl
            obtain rfl := Option.some.inj h
            exact ret_1 rfl rfl ⟨_, rfl, rfl, hS⟩
          rintro _ w ⟨rfl, hS⟩
          refine WL.val (R_not rfl) rfl rfl ?_
          refine WL.nil ?_
          refine WQ.thenC ?_
          refine WC.cond rfl (fun hb5109 => ?_) (fun hb5109 => ?_)
          · have h := ifT hb5109 h
            refine WC.seq ?_
            refine WC.reg ?_
            refine WL.val (R_fieldB o197_0 rfl) rfl rfl ?_
            refine WL.val (R_load1 g136 rfl (hS.cell 0 rfl rfl)) rfl rfl ?_
            refine WL.val (R_assign rfl) rfl rfl ?_
            refine WL.val (R_assign rfl) rfl rfl ?_
            refine WL.nil ?_
            refine WQ.thenC ?_
            refine WC.ret ?_
            refine WQ.blockR ?_
            refine WQ.thenR ?_
            refine WQ.thenR ?_
            refine WQ.blockR ?_
            refine WQ.thenR ?_
            have hS0 := hS
            have hS := hS.pick [2, 3, 4, 5] [0, 1, 2] rfl
            have h := Option.some.inj h
            obtain ⟨rfl, rfl⟩ := Prod.mk.inj h
            exact ret_2 rfl rfl rfl ⟨_, rfl, rfl, hS⟩
          · have h := ifF hb5109 h
            refine WC.skip ?_
            refine WQ.blockN ?_
            refine WQ.thenC ?_
            refine WC.reg ?_
            refine WL.val (R_ar rfl rfl rfl) rfl rfl ?_
            refine WL.val (R_move rfl) rfl rfl ?_
            refine WL.nil ?_
            refine WQ.thenW ?_
            refine WR.step ?_
            refine WC.seq ?_
            refine WC.reg ?_
            refine WL.val (R_cmp rfl rfl rfl) rfl rfl ?_
            refine WL.nil ?_
            refine WQ.thenC ?_
            refine WC.seq ?_
            refine WC.condT rfl ?_
            refine WC.skip ?_
            refine WQ.thenC ?_
            refine WC.seq ?_
            refine WC.block ?_
            refine WC.seq ?_
            refine WC.reg ?_
            refine WL.val (R_indexB u198 z197 rfl rfl (by decide) (by decide)) rfl rfl ?_
            refine WL.val (R_loadA g197 rfl rfl (hS.cells 2 (o := 4) (m := 2) rfl rfl)) rfl rfl ?_
            refine WL.alloc _ z197 rfl hS rfl ?_
            intro b5110 w hS
            refine WL.storeB 0 [.int .i64 (7 : Int), .func (.func 123) #[] #[.pointer (some ⟨b4944, 0, none⟩)]] g197 hS rfl rfl rfl rfl rfl rfl rfl [.int .i64 (7 : Int), .func (.func 123) #[] #[.pointer (some ⟨b4944, 0, none⟩)]] rfl ?_
            intro w hS
            refine WL.nil ?_
            refine WQ.thenC ?_
            refine WC.seq ?_
            refine WC.reg ?_
            refine WL.val (R_fieldB o197_1 rfl) rfl rfl ?_
            refine WL.val (R_load1 g27 rfl (hS.cell 0 rfl rfl)) rfl rfl ?_
            obtain ⟨r5111, hr5112, h⟩ := bindS h
            refine WL.callR (Φ := fun v w => v = .bool r5111 ∧ Sta w0 M [Blk b5110 [.int .i64 (7 : Int), .func (.func 123) #[] #[.pointer (some ⟨b4944, 0, none⟩)]] 197, Blk b5106 [.int .i64 (6 : Int), .func (.func 122) #[] #[.pointer (some ⟨b4944, 0, none⟩)]] 197, Blk b5101 [.int .i64 (5 : Int), .func (.func 121) #[] #[.pointer (some ⟨b4944, 0, none⟩)]] 197, Blk b5097 [.int .i64 (5 : Int), .func (.func 121) #[] #[.pointer (some ⟨b4944, 0, none⟩)], .int .i64 (6 : Int), .func (.func 122) #[] #[.pointer (some ⟨b4944, 0, none⟩)], .int .i64 (7 : Int), .func (.func 123) #[] #[.pointer (some ⟨b4944, 0, none⟩)]] 197, Blk b4944 [.string p47.name, .slice A48 p47.features.length c49, .int .i64 p47.outputs, .slice A51 p47.base.length c52, .slice A54 p47.trees.length c55] 26, Blk b4945 [.int .i64 (0 : Int), .int .i64 (0 : Int), .int .i64 (0 : Int)] 138, Blk b4946 [.int .i64 (0 : Int), .int .i64 (-1 : Int), .int .i64 (-1 : Int)] 138] [FSl RStr A48 c49 p47.features, FSl (RI .i64) A51 c52 p47.base, FSl RTree A54 c55 p47.trees] w) e123 rfl rfl ?_ rfl ?_
            · have h := hr5112
              refine calls_enter (n := 0) Tryz.func123 rfl [(0, .pointer (some ⟨b4944, 0, none⟩))] rfl rfl ⟨rfl, trivial⟩ ?_
              refine WC.seq ?_
              refine WC.reg ?_
              refine WL.val (R_assign rfl) rfl rfl ?_
              refine WL.nil ?_
              refine WQ.thenC ?_
              refine WC.seq ?_
              refine WC.reg ?_
              refine WL.val (R_fieldB o26_4 rfl) rfl rfl ?_
              refine WL.val (R_load1 g24 rfl (hS.cell 4 rfl rfl)) rfl rfl ?_
              refine WL.val (R_lenS u24 rfl) rfl rfl ?_
              refine WL.val (R_cmp rfl rfl rfl) rfl rfl ?_
              refine WL.val (R_assign rfl) rfl rfl ?_
              refine WL.nil ?_
              refine WQ.thenC ?_
              refine WC.ret ?_
              have hS0 := hS
              have hS := hS.pick [0, 1, 2, 3, 4, 5, 6] [0, 1, 2] rfl
              obtain rfl := Option.some.inj h
              exact ret_1 rfl rfl ⟨_, rfl, rfl, hS⟩
            rintro _ w ⟨rfl, hS⟩
            refine WL.val (R_not rfl) rfl rfl ?_
            refine WL.nil ?_
            refine WQ.thenC ?_
            refine WC.cond rfl (fun hb5113 => ?_) (fun hb5113 => ?_)
            · have h := ifT hb5113 h
              refine WC.seq ?_
              refine WC.reg ?_
              refine WL.val (R_fieldB o197_0 rfl) rfl rfl ?_
              refine WL.val (R_load1 g136 rfl (hS.cell 0 rfl rfl)) rfl rfl ?_
              refine WL.val (R_assign rfl) rfl rfl ?_
              refine WL.val (R_assign rfl) rfl rfl ?_
              refine WL.nil ?_
              refine WQ.thenC ?_
              refine WC.ret ?_
              refine WQ.blockR ?_
              refine WQ.thenR ?_
              refine WQ.thenR ?_
              refine WQ.blockR ?_
              refine WQ.thenR ?_
              have hS0 := hS
              have hS := hS.pick [3, 4, 5, 6] [0, 1, 2] rfl
              have h := Option.some.inj h
              obtain ⟨rfl, rfl⟩ := Prod.mk.inj h
              exact ret_2 rfl rfl rfl ⟨_, rfl, rfl, hS⟩
            · have h := ifF hb5113 h
              refine WC.skip ?_
              refine WQ.blockN ?_
              refine WQ.thenC ?_
              refine WC.reg ?_
              refine WL.val (R_ar rfl rfl rfl) rfl rfl ?_
              refine WL.val (R_move rfl) rfl rfl ?_
              refine WL.nil ?_
              refine WQ.thenW ?_
              refine WR.step ?_
              refine WC.seq ?_
              refine WC.reg ?_
              refine WL.val (R_cmp rfl rfl rfl) rfl rfl ?_
              refine WL.nil ?_
              refine WQ.thenC ?_
              refine WC.seq ?_
              refine WC.condF rfl ?_
              refine WC.exit ?_
              refine WQ.thenE ?_
              refine WQ.thenE ?_
              refine WQ.blockE ?_
              refine WQ.thenC ?_
              refine WC.seq ?_
              refine WC.reg ?_
              refine WL.val (R_assign rfl) rfl rfl ?_
              refine WL.val (R_assign rfl) rfl rfl ?_
              refine WL.nil ?_
              refine WQ.thenC ?_
              refine WC.ret ?_
              have hS0 := hS
              have hS := hS.pick [3, 4, 5, 6] [0, 1, 2] rfl
              have h := Option.some.inj h
              obtain ⟨rfl, rfl⟩ := Prod.mk.inj h
              exact ret_2 rfl rfl rfl ⟨_, rfl, rfl, hS⟩
      rintro _ w ⟨rfl, hS⟩
      refine WL.val (R_move rfl) rfl rfl ?_
      refine WL.val (R_extract rfl rfl) rfl rfl ?_
      refine WL.val (R_extract rfl rfl) rfl rfl ?_
      refine WL.val (R_assign rfl) rfl rfl ?_
      refine WL.val (R_assign rfl) rfl rfl ?_
      refine WL.nil ?_
      refine WQ.thenC ?_
      refine WC.seq ?_
      refine WC.reg ?_
      refine WL.val (R_move rfl) rfl rfl ?_
      refine WL.nil ?_
      refine WQ.thenC ?_
      refine WC.cond rfl (fun hb5114 => ?_) (fun hb5114 => ?_)
      · have h := ifT hb5114 h
        refine WC.seq ?_
        refine WC.reg ?_
        refine WL.val (R_move rfl) rfl rfl ?_
        refine WL.val (R_fieldB o138_0 rfl) rfl rfl ?_
        refine WL.storeB 3 [.int .i64 r5098] g136 hS rfl rfl rfl rfl rfl rfl rfl [.int .i64 r5098, .int .i64 (-1 : Int), .int .i64 (-1 : Int)] rfl ?_
        intro w hS
        refine WL.nil ?_
        refine WQ.thenC ?_
        refine WC.seq ?_
        refine WC.reg ?_
        refine WL.val (R_loadA g138 rfl rfl (hS.cells 3 (o := 0) (m := 3) rfl rfl)) rfl rfl ?_
        refine WL.storeB 2 [.int .i64 r5098, .int .i64 (-1 : Int), .int .i64 (-1 : Int)] g138 hS rfl rfl rfl rfl rfl rfl rfl [.int .i64 r5098, .int .i64 (-1 : Int), .int .i64 (-1 : Int)] rfl ?_
        intro w hS
        refine WL.nil ?_
        refine WQ.thenC ?_
        refine WC.ret ?_
        refine WQ.thenR ?_
        have hS0 := hS
        obtain rfl := Option.some.inj h
        exact ret_1 rfl (resV_B 2 hS0 rfl rfl g138 rfl) ⟨_, rfl, hS.bel, rfl⟩
      · have h := ifF hb5114 h
        refine WC.skip ?_
        refine WQ.thenC ?_
        obtain ⟨o5150, h5151, h5152⟩ := bindS h
        refine WC.seqM (fun env w => Fl.go () = o5150 ∧ env = [(1, .pointer (some ⟨b4944, 0, none⟩)), (2, .pointer (some ⟨b4945, 0, none⟩))] ∧ Sta w0 M [Blk b4944 [.string p47.name, .slice A48 p47.features.length c49, .int .i64 p47.outputs, .slice A51 p47.base.length c52, .slice A54 p47.trees.length c55] 26, Blk b4945 [.int .i64 (0 : Int), .int .i64 (0 : Int), .int .i64 (0 : Int)] 138] [FSl RStr A48 c49 p47.features, FSl (RI .i64) A51 c52 p47.base, FSl RTree A54 c55 p47.trees] w) ?_ ?_
        · have h := h5151
          refine WC.seq ?_
          refine WC.reg ?_
          refine WL.val (R_fieldB o26_4 rfl) rfl rfl ?_
          refine WL.val (R_load1 g24 rfl (hS.cell 1 rfl rfl)) rfl rfl ?_
          refine WL.val (R_lenS u24 rfl) rfl rfl ?_
          refine WL.val (R_move rfl) rfl rfl ?_
          refine WL.nil ?_
          refine WQ.thenC ?_
          refine WC.block ?_
          have hS := hS.pick [1, 2] [2, 0, 1] rfl
          refine WC.loopJ (fun m env w => ∃ (y5170 : Int), env = [(1, .pointer (some ⟨b4944, 0, none⟩)), (2, .pointer (some ⟨b4945, 0, none⟩)), (77, .slice A54 p47.trees.length c55), (78, .int .i64 (p47.trees.length : Int)), (79, .int .i64 y5170)] ∧ Sta w0 M [Blk b4944 [.string p47.name, .slice A48 p47.features.length c49, .int .i64 p47.outputs, .slice A51 p47.base.length c52, .slice A54 p47.trees.length c55] 26, Blk b4945 [.int .i64 (0 : Int), .int .i64 (0 : Int), .int .i64 (0 : Int)] 138] [FSl RTree A54 c55 p47.trees, FSl RStr A48 c49 p47.features, FSl (RI .i64) A51 c52 p47.base] w ∧ rules_Check_l1 k p47 m y5170 = some o5150) k ⟨(0 : Int), rfl, hS, h⟩ ⟨rfl, rfl, rfl, rfl, rfl, trivial⟩ (fun env w hI => ?_) (fun m env w hI => ?_)
          · obtain ⟨y5170, rfl, hS, h⟩ := hI
            rw [rules_Check_l1] at h
            cases h
          · obtain ⟨y5170, rfl, hS, h⟩ := hI
            rw [rules_Check_l1] at h
            refine WC.seq ?_
            refine WC.reg ?_
            refine WL.val (R_cmp rfl rfl rfl) rfl rfl ?_
            refine WL.nil ?_
            refine WQ.thenC ?_
            refine WC.seq ?_
            refine WC.cond rfl (fun hb5188 => ?_) (fun hb5188 => ?_)
            · have h := ifT hb5188 h
              refine WC.skip ?_
              refine WQ.thenC ?_
              refine WC.seq ?_
              refine WC.block ?_
              refine WC.seq ?_
              refine WC.reg ?_
              refine WL.val (R_move rfl) rfl rfl ?_
              obtain ⟨x5189, hx5190, h⟩ := bindS h
              obtain ⟨ad5191, cs5192, hA5193, hq5194, hK5195, hc5196⟩ := hS.sget 0 rfl (rdS hx5190).2.2
              obtain ⟨A5197, c5198, rfl, hs5199⟩ := hK5195
              have hS := hS.addF (FSl RNode A5197 c5198 x5189.nodes) hs5199
              refine WL.val (R_indexAddr u24 z52 rfl rfl hA5193 (rdS hx5190).1 hq5194) rfl rfl ?_
              refine WL.val (R_loadA g52 rfl rfl hc5196) rfl rfl ?_
              refine WL.alloc _ z52 rfl hS rfl ?_
              intro b5200 w hS
              refine WL.val (R_assign rfl) rfl rfl ?_
              refine WL.storeB 0 [.int .i64 x5189.output, .slice A5197 x5189.nodes.length c5198] g52 hS rfl rfl rfl rfl rfl rfl rfl [.int .i64 x5189.output, .slice A5197 x5189.nodes.length c5198] rfl ?_
              intro w hS
              refine WL.nil ?_
              refine WQ.thenC ?_
              refine WC.seq ?_
              refine WC.reg ?_
              refine WL.val (R_loadA g26 rfl rfl (hS.cells 1 (o := 0) (m := 5) rfl rfl)) rfl rfl ?_
              refine WL.val (R_loadA g52 rfl rfl (hS.cells 0 (o := 0) (m := 2) rfl rfl)) rfl rfl ?_
              obtain ⟨⟨r5201, r5202⟩, hr5203, h⟩ := bindS h
              try dsimp only at h
              refine WL.call e124 rfl rfl hS (rules_tree_ok (hS).mx_lt k p47 x5189 (hS.sl 2 rfl) (hS.sl 3 rfl) (hS.sl 1 rfl) (hS.sl 0 rfl) _ _ hr5203) rfl ?_
              intro v w hB hS hP
              obtain ⟨rfl⟩ := hP
              refine WL.val (R_move rfl) rfl rfl ?_
              refine WL.val (R_extract rfl rfl) rfl rfl ?_
              refine WL.val (R_extract rfl rfl) rfl rfl ?_
              refine WL.val (R_assign rfl) rfl rfl ?_
              refine WL.val (R_assign rfl) rfl rfl ?_
              refine WL.nil ?_
              refine WQ.thenC ?_
              refine WC.seq ?_
              refine WC.reg ?_
              refine WL.val (R_move rfl) rfl rfl ?_
              refine WL.val (R_cmp rfl rfl rfl) rfl rfl ?_
              refine WL.nil ?_
              refine WQ.thenC ?_
              refine WC.cond rfl (fun hb5204 => ?_) (fun hb5204 => ?_)
              · have h := ifT hb5204 h
                refine WC.seq ?_
                refine WC.reg ?_
                refine WL.val (R_move rfl) rfl rfl ?_
                refine WL.val (R_move rfl) rfl rfl ?_
                refine WL.val (R_move rfl) rfl rfl ?_
                refine WL.val (R_build (cells := #[.int .i64 r5201, .int .i64 y5170, .int .i64 r5202]) rfl (by kernel_rfl)) rfl rfl ?_
                refine WL.storeB 2 [.int .i64 r5201, .int .i64 y5170, .int .i64 r5202] g138 hS rfl rfl rfl rfl rfl rfl rfl [.int .i64 r5201, .int .i64 y5170, .int .i64 r5202] rfl ?_
                intro w hS
                refine WL.nil ?_
                refine WQ.thenC ?_
                refine WC.ret ?_
                refine WQ.blockR ?_
                refine WQ.thenR ?_
                refine WQ.thenR ?_
                refine WQ.blockR ?_
                refine WQ.thenR ?_
                obtain ⟨_, hr, rfl⟩ := mapS h
                have h := hr.trans h5152
                have hS0 := hS
                obtain rfl := Option.some.inj h
                exact ret_1 rfl (resV_B 2 hS0 rfl rfl g138 rfl) ⟨_, rfl, hS.bel, rfl⟩
              · have h := ifF hb5204 h
                refine WC.skip ?_
                refine WQ.blockN ?_
                refine WQ.thenC ?_
                refine WC.reg ?_
                refine WL.val (R_ar rfl rfl rfl) rfl rfl ?_
                refine WL.val (R_move rfl) rfl rfl ?_
                refine WL.nil ?_
                have hS := hS.pick [1, 2] [1, 2, 3] rfl
                exact WQ.toJ ⟨(IntKind.i64.wrap (y5170 + (1 : Int))), rfl, hS, h⟩ ⟨rfl, rfl, rfl, rfl, rfl, trivial⟩
            · have h := ifF hb5188 h
              refine WC.exit ?_
              refine WQ.thenE ?_
              refine WQ.thenE ?_
              refine WQ.blockE ?_
              have hS := hS.pick [0, 1] [1, 2, 0] rfl
              exact WQ.toJ ⟨Option.some.inj h, rfl, hS⟩ ⟨rfl, rfl, trivial⟩
        · rintro _ w ⟨rfl, rfl, hS⟩
          have h := h5152
          try dsimp only at h
          refine WC.seq ?_
          refine WC.reg ?_
          obtain ⟨r5205, hr5206, h⟩ := bindS h
          refine WL.call e125 rfl rfl hS (limbs_From_ok (hS).mx_lt k (4611686018427387904 : Int)  _ hr5206) rfl ?_
          intro v w hB hS hP
          obtain ⟨A5207, c5208, rfl, ho5209⟩ := hP
          have hS := hS.addF (FSl (RI .u32) A5207 c5208 r5205) ho5209
          refine WL.val (R_assign rfl) rfl rfl ?_
          refine WL.nil ?_
          refine WQ.thenC ?_
          refine WC.seq ?_
          refine WC.reg ?_
          refine WL.val (R_loadA g26 rfl rfl (hS.cells 0 (o := 0) (m := 5) rfl rfl)) rfl rfl ?_
          obtain ⟨r5210, hr5211, h⟩ := bindS h
          have hS0 := hS
          refine WL.call e126 rfl rfl hS (rules_rooms_ok (hS).mx_lt k p47 (hS.sl 1 rfl) (hS.sl 2 rfl) (hS.sl 3 rfl) _ hr5211) rfl ?_
          intro v w hB hS hP
          obtain ⟨A5212, n5213, c5214, rfl, ho5215⟩ := hP
          obtain rfl := Row.len ho5215
          have hS := hS0.ofRow hB ho5215
          refine WL.val (R_assign rfl) rfl rfl ?_
          refine WL.nil ?_
          refine WQ.thenC ?_
          obtain ⟨o5247, h5248, h5249⟩ := bindS h
          refine WC.seqM (fun env w => Fl.go () = o5247 ∧ env = [(2, .pointer (some ⟨b4945, 0, none⟩))] ∧ Sta w0 M [Blk b4945 [.int .i64 (0 : Int), .int .i64 (0 : Int), .int .i64 (0 : Int)] 138] [] w) ?_ ?_
          · have h := h5248
            refine WC.seq ?_
            refine WC.reg ?_
            refine WL.val (R_fieldB o26_2 rfl) rfl rfl ?_
            refine WL.val (R_load1 g3 rfl (hS.cell 1 rfl rfl)) rfl rfl ?_
            refine WL.val (R_move rfl) rfl rfl ?_
            refine WL.nil ?_
            refine WQ.thenC ?_
            refine WC.block ?_
            have hS := hS.pick [2, 0] [0] rfl
            refine WC.loopJ (fun m env w => ∃ (y5265 : Int), env = [(2, .pointer (some ⟨b4945, 0, none⟩)), (17, .slice A5207 r5205.length c5208), (18, .slice A5212 r5210.length c5214), (101, .int .i64 p47.outputs), (102, .int .i64 y5265)] ∧ Sta w0 M [Blk b4945 [.int .i64 (0 : Int), .int .i64 (0 : Int), .int .i64 (0 : Int)] 138, Row (RSl (RI .u32)) 155 (.slice A5212 r5210.length c5214) r5210] [FSl (RI .u32) A5207 c5208 r5205] w ∧ rules_Check_l2 k p47 r5210 r5205 m y5265 = some o5247) k ⟨(0 : Int), rfl, hS, h⟩ ⟨rfl, rfl, rfl, rfl, rfl, trivial⟩ (fun env w hI => ?_) (fun m env w hI => ?_)
            · obtain ⟨y5265, rfl, hS, h⟩ := hI
              rw [rules_Check_l2] at h
              cases h
            · obtain ⟨y5265, rfl, hS, h⟩ := hI
              rw [rules_Check_l2] at h
              refine WC.seq ?_
              refine WC.reg ?_
              refine WL.val (R_cmp rfl rfl rfl) rfl rfl ?_
              refine WL.nil ?_
              refine WQ.thenC ?_
              refine WC.seq ?_
              refine WC.cond rfl (fun hb5281 => ?_) (fun hb5281 => ?_)
              · have h := ifT hb5281 h
                refine WC.skip ?_
                refine WQ.thenC ?_
                refine WC.seq ?_
                refine WC.block ?_
                refine WC.seq ?_
                refine WC.reg ?_
                refine WL.val (R_move rfl) rfl rfl ?_
                refine WL.val (R_assign rfl) rfl rfl ?_
                refine WL.nil ?_
                refine WQ.thenC ?_
                refine WC.seq ?_
                refine WC.reg ?_
                refine WL.val (R_move rfl) rfl rfl ?_
                refine WL.val (R_move rfl) rfl rfl ?_
                obtain ⟨x5282, hx5283, h⟩ := bindS h
                obtain ⟨ad5284, cs5285, hA5286, hq5287, hK5288, hc5289⟩ := hS.rget 1 rfl (rdS hx5283).2.2
                obtain ⟨A5290, c5291, rfl, hs5292⟩ := hK5288
                have hS := hS.addF (FSl (RI .u32) A5290 c5291 x5282) hs5292
                refine WL.val (R_indexAddr u202 z155 rfl rfl hA5286 (rdS hx5283).1 hq5287) rfl rfl ?_
                refine WL.val (R_load1 g155 rfl (hc5289 0 _ rfl)) rfl rfl ?_
                refine WL.val (R_move rfl) rfl rfl ?_
                obtain ⟨r5293, hr5294, h⟩ := bindS h
                refine WL.call e127 rfl rfl hS (limbs_Cmp_ok (hS).mx_lt k x5282 r5205 (hS.sl 0 rfl) (hS.sl 1 rfl) _ hr5294) rfl ?_
                intro v w hB hS hP
                obtain ⟨rfl⟩ := hP
                refine WL.val (R_cmp rfl rfl rfl) rfl rfl ?_
                refine WL.nil ?_
                refine WQ.thenC ?_
                refine WC.cond rfl (fun hb5295 => ?_) (fun hb5295 => ?_)
                · have h := ifT hb5295 h
                  refine WC.seq ?_
                  refine WC.reg ?_
                  refine WL.val (R_move rfl) rfl rfl ?_
                  refine WL.val (R_build (cells := #[.int .i64 (31 : Int), .int .i64 (-1 : Int), .int .i64 y5265]) rfl (by kernel_rfl)) rfl rfl ?_
                  refine WL.storeB 0 [.int .i64 (31 : Int), .int .i64 (-1 : Int), .int .i64 y5265] g138 hS rfl rfl rfl rfl rfl rfl rfl [.int .i64 (31 : Int), .int .i64 (-1 : Int), .int .i64 y5265] rfl ?_
                  intro w hS
                  refine WL.nil ?_
                  refine WQ.thenC ?_
                  refine WC.ret ?_
                  refine WQ.blockR ?_
                  refine WQ.thenR ?_
                  refine WQ.thenR ?_
                  refine WQ.blockR ?_
                  refine WQ.thenR ?_
                  obtain ⟨_, hr, rfl⟩ := mapS h
                  have h := hr.trans h5249
                  have hS0 := hS
                  obtain rfl := Option.some.inj h
                  exact ret_1 rfl (resV_B 0 hS0 rfl rfl g138 rfl) ⟨_, rfl, hS.bel, rfl⟩
                · have h := ifF hb5295 h
                  refine WC.skip ?_
                  refine WQ.blockN ?_
                  refine WQ.thenC ?_
                  refine WC.reg ?_
                  refine WL.val (R_ar rfl rfl rfl) rfl rfl ?_
                  refine WL.val (R_move rfl) rfl rfl ?_
                  refine WL.nil ?_
                  have hS := hS.pick [0, 1] [1] rfl
                  exact WQ.toJ ⟨(IntKind.i64.wrap (y5265 + (1 : Int))), rfl, hS, h⟩ ⟨rfl, rfl, rfl, rfl, rfl, trivial⟩
              · have h := ifF hb5281 h
                refine WC.exit ?_
                refine WQ.thenE ?_
                refine WQ.thenE ?_
                refine WQ.blockE ?_
                have hS := hS.pick [0] [] rfl
                exact WQ.toJ ⟨Option.some.inj h, rfl, hS⟩ ⟨rfl, trivial⟩
          · rintro _ w ⟨rfl, rfl, hS⟩
            have h := h5249
            try dsimp only at h
            refine WC.seq ?_
            refine WC.reg ?_
            refine WL.val (R_build (cells := #[.int .i64 (0 : Int), .int .i64 (0 : Int), .int .i64 (0 : Int)]) rfl (by kernel_rfl)) rfl rfl ?_
            refine WL.storeB 0 [.int .i64 (0 : Int), .int .i64 (0 : Int), .int .i64 (0 : Int)] g138 hS rfl rfl rfl rfl rfl rfl rfl [.int .i64 (0 : Int), .int .i64 (0 : Int), .int .i64 (0 : Int)] rfl ?_
            intro w hS
            refine WL.nil ?_
            refine WQ.thenC ?_
            refine WC.ret ?_
            have hS0 := hS
            obtain rfl := Option.some.inj h
            exact ret_1 rfl (resV_B 0 hS0 rfl rfl g138 rfl) ⟨_, rfl, hS.bel, rfl⟩

def rules_Valid (k : Nat) (p36 : Ensemble) : Option Bool :=
    (rules_Check k p36).bind fun r5299 =>
    some (decide (r5299.rule = (0 : Int)) && (decide (r5299.tree = (0 : Int)) && (decide (r5299.node_ = (0 : Int)) && (true))))

theorem rules_Valid_ok {w0 : World} {M : MSet} (hM : ∀ k, M k → k < w0.heap.size) (k : Nat) (p36 : Ensemble) {A37 : Option Addr} {c38 : Nat} (hs39 : p36.features.length ≤ c38 ∧ Sl RStr M w0 A37 p36.features) {A40 : Option Addr} {c41 : Nat} (hs42 : p36.base.length ≤ c41 ∧ Sl (RI .i64) M w0 A40 p36.base) {A43 : Option Addr} {c44 : Nat} (hs45 : p36.trees.length ≤ c44 ∧ Sl RTree M w0 A43 p36.trees) (r : Bool) (h : rules_Valid k p36 = some r) :
    Calls Tryz.prog 26 #[.agg #[.string p36.name, .slice A37 p36.features.length c38, .int .i64 p36.outputs, .slice A40 p36.base.length c41, .slice A43 p36.trees.length c44]] w0 (Gives w0 fun v w' => v = .bool r) := by
  have hS := Sta.init hM
  have hS := hS.arg hs39
  have hS := hS.arg hs42
  have hS := hS.arg hs45
  unfold rules_Valid at h
  refine calls_enter (n := 0) Tryz.func26 rfl [(0, .agg #[.string p36.name, .slice A37 p36.features.length c38, .int .i64 p36.outputs, .slice A40 p36.base.length c41, .slice A43 p36.trees.length c44])] rfl rfl ⟨rfl, trivial⟩ ?_
  refine WC.seq ?_
  refine WC.reg ?_
  refine WL.box [.string p36.name, .slice A37 p36.features.length c38, .int .i64 p36.outputs, .slice A40 p36.base.length c41, .slice A43 p36.trees.length c44] rfl rfl hS rfl ?_
  intro b5298 w hS
  refine WL.val (R_assign rfl) rfl rfl ?_
  refine WL.nil ?_
  refine WQ.thenC ?_
  refine WC.seq ?_
  refine WC.reg ?_
  refine WL.val (R_loadA g26 rfl rfl (hS.cells 0 (o := 0) (m := 5) rfl rfl)) rfl rfl ?_
  obtain ⟨r5299, hr5300, h⟩ := bindS h
  refine WL.call e75 rfl rfl hS (rules_Check_ok (hS).mx_lt k p36 (hS.sl 2 rfl) (hS.sl 1 rfl) (hS.sl 0 rfl) _ hr5300) rfl ?_
  intro v w hB hS hP
  obtain ⟨rfl⟩ := hP
  refine WL.val (R_build (cells := #[.int .i64 (0 : Int), .int .i64 (0 : Int), .int .i64 (0 : Int)]) rfl (by kernel_rfl)) rfl rfl ?_
  refine WL.val (R_eqA (qe138 r5299.rule r5299.tree r5299.node_ (0 : Int) (0 : Int) (0 : Int)) rfl rfl) rfl rfl ?_
  refine WL.val (R_assign rfl) rfl rfl ?_
  refine WL.nil ?_
  refine WQ.thenC ?_
  refine WC.ret ?_
  have hS0 := hS
  obtain rfl := Option.some.inj h
  exact ret_1 rfl rfl ⟨_, rfl, hS.bel, rfl⟩

def order_Key (p6423 : Nat) : Option Int :=
    if (cmpF .neq p6423 p6423) = true then (some (18437736874454810625 : Int)) else (if decide ((shI .shr .u64 (p6423 : Int) (63 : Int)) = (0 : Int)) = true then (some (IntKind.u64.wrap ((9218868437227405312 : Int) + (p6423 : Int)))) else (some (IntKind.u64.wrap ((9218868437227405312 : Int) - (btI .andNot .u64 (p6423 : Int) (9223372036854775808 : Int))))))

theorem order_Key_ok {w0 : World} {M : MSet} (hM : ∀ k, M k → k < w0.heap.size) (p6423 : Nat) (r : Int) (h : order_Key p6423 = some r) :
    Calls Tryz.prog 133 #[.float .f64 p6423] w0 (Gives w0 fun v w' => v = .int .u64 r) := by
  have hS := Sta.init hM
  unfold order_Key at h
  refine calls_enter (n := 0) Tryz.func133 rfl [(0, .float .f64 p6423)] rfl rfl ⟨rfl, trivial⟩ ?_
  refine WC.seq ?_
  refine WC.reg ?_
  refine WL.val (R_assign rfl) rfl rfl ?_
  refine WL.nil ?_
  refine WQ.thenC ?_
  refine WC.seq ?_
  refine WC.reg ?_
  refine WL.val (R_move rfl) rfl rfl ?_
  refine WL.val (R_f64bits xb104 rfl) rfl rfl ?_
  refine WL.val (R_assign rfl) rfl rfl ?_
  refine WL.nil ?_
  refine WQ.thenC ?_
  refine WC.seq ?_
  refine WC.block ?_
  refine WC.seq ?_
  refine WC.reg ?_
  refine WL.val (R_move rfl) rfl rfl ?_
  refine WL.val (R_move rfl) rfl rfl ?_
  refine WL.val (R_cmpF rfl rfl rfl) rfl rfl ?_
  refine WL.val (R_assign rfl) rfl rfl ?_
  refine WL.nil ?_
  refine WQ.thenC ?_
  refine WC.cond rfl (fun hb6426 => ?_) (fun hb6426 => ?_)
  · have h := ifT hb6426 h
    refine WC.seq ?_
    refine WC.reg ?_
    refine WL.val (R_assign rfl) rfl rfl ?_
    refine WL.nil ?_
    refine WQ.thenC ?_
    refine WC.ret ?_
    refine WQ.blockR ?_
    refine WQ.thenR ?_
    have hS0 := hS
    obtain rfl := Option.some.inj h
    exact ret_1 rfl rfl ⟨_, rfl, hS.bel, rfl⟩
  · have h := ifF hb6426 h
    refine WC.seq ?_
    refine WC.reg ?_
    refine WL.val (R_move rfl) rfl rfl ?_
    refine WL.val (R_sh rfl rfl rfl (by decide)) rfl rfl ?_
    refine WL.val (R_cmp rfl rfl rfl) rfl rfl ?_
    refine WL.val (R_assign rfl) rfl rfl ?_
    refine WL.nil ?_
    refine WQ.thenC ?_
    refine WC.cond rfl (fun hb6427 => ?_) (fun hb6427 => ?_)
    · have h := ifT hb6427 h
      refine WC.seq ?_
      refine WC.reg ?_
      refine WL.val (R_move rfl) rfl rfl ?_
      refine WL.val (R_ar rfl rfl rfl) rfl rfl ?_
      refine WL.val (R_assign rfl) rfl rfl ?_
      refine WL.nil ?_
      refine WQ.thenC ?_
      refine WC.ret ?_
      refine WQ.blockR ?_
      refine WQ.thenR ?_
      have hS0 := hS
      obtain rfl := Option.some.inj h
      exact ret_1 rfl rfl ⟨_, rfl, hS.bel, rfl⟩
    · have h := ifF hb6427 h
      refine WC.skip ?_
      refine WQ.blockN ?_
      refine WQ.thenC ?_
      refine WC.seq ?_
      refine WC.reg ?_
      refine WL.val (R_move rfl) rfl rfl ?_
      refine WL.val (R_bt rfl rfl rfl) rfl rfl ?_
      refine WL.val (R_ar rfl rfl rfl) rfl rfl ?_
      refine WL.val (R_assign rfl) rfl rfl ?_
      refine WL.nil ?_
      refine WQ.thenC ?_
      refine WC.ret ?_
      have hS0 := hS
      obtain rfl := Option.some.inj h
      exact ret_1 rfl rfl ⟨_, rfl, hS.bel, rfl⟩

def bits_Len64 (p6506 : Int) : Option Int :=
    (if decide ((4294967296 : Int) ≤ p6506) = true then (some ((shI .shr .u64 p6506 (32 : Int)), (32 : Int))) else (some (p6506, (0 : Int))) : Option (Int × Int)).bind fun ⟨y6531, y6532⟩ =>
    (if decide ((65536 : Int) ≤ y6531) = true then (some ((shI .shr .u64 y6531 (16 : Int)), (IntKind.i64.wrap (y6532 + (16 : Int))))) else (some (y6531, y6532)) : Option (Int × Int)).bind fun ⟨y6538, y6539⟩ =>
    (if decide ((256 : Int) ≤ y6538) = true then (some ((shI .shr .u64 y6538 (8 : Int)), (IntKind.i64.wrap (y6539 + (8 : Int))))) else (some (y6538, y6539)) : Option (Int × Int)).bind fun ⟨y6545, y6546⟩ =>
    (sIx (⟨#[0, 1, 2, 2, 3, 3, 3, 3, 4, 4, 4, 4, 4, 4, 4, 4, 5, 5, 5, 5, 5, 5, 5, 5, 5, 5, 5, 5, 5, 5, 5, 5, 6, 6, 6, 6, 6, 6, 6, 6, 6, 6, 6, 6, 6, 6, 6, 6, 6, 6, 6, 6, 6, 6, 6, 6, 6, 6, 6, 6, 6, 6, 6, 6, 7, 7, 7, 7, 7, 7, 7, 7, 7, 7, 7, 7, 7, 7, 7, 7, 7, 7, 7, 7, 7, 7, 7, 7, 7, 7, 7, 7, 7, 7, 7, 7, 7, 7, 7, 7, 7, 7, 7, 7, 7, 7, 7, 7, 7, 7, 7, 7, 7, 7, 7, 7, 7, 7, 7, 7, 7, 7, 7, 7, 7, 7, 7, 7, 8, 8, 8, 8, 8, 8, 8, 8, 8, 8, 8, 8, 8, 8, 8, 8, 8, 8, 8, 8, 8, 8, 8, 8, 8, 8, 8, 8, 8, 8, 8, 8, 8, 8, 8, 8, 8, 8, 8, 8, 8, 8, 8, 8, 8, 8, 8, 8, 8, 8, 8, 8, 8, 8, 8, 8, 8, 8, 8, 8, 8, 8, 8, 8, 8, 8, 8, 8, 8, 8, 8, 8, 8, 8, 8, 8, 8, 8, 8, 8, 8, 8, 8, 8, 8, 8, 8, 8, 8, 8, 8, 8, 8, 8, 8, 8, 8, 8, 8, 8, 8, 8, 8, 8, 8, 8, 8, 8, 8, 8, 8, 8, 8, 8, 8, 8, 8, 8, 8, 8, 8, 8, 8, 8, 8, 8, 8, 8]⟩ : ByteArray) (IntKind.u8.wrap y6545)).bind fun x6551 =>
    some (IntKind.i64.wrap (y6546 + (IntKind.i64.wrap x6551)))

theorem bits_Len64_ok {w0 : World} {M : MSet} (hM : ∀ k, M k → k < w0.heap.size) (p6506 : Int) (r : Int) (h : bits_Len64 p6506 = some r) :
    Calls Tryz.prog 254 #[.int .u64 p6506] w0 (Gives w0 fun v w' => v = .int .i64 r) := by
  have hS := Sta.init hM
  unfold bits_Len64 at h
  refine calls_enter (n := 0) Tryz.func254 rfl [(0, .int .u64 p6506)] rfl rfl ⟨rfl, trivial⟩ ?_
  refine WC.seq ?_
  refine WC.reg ?_
  refine WL.val (R_assign rfl) rfl rfl ?_
  refine WL.nil ?_
  refine WQ.thenC ?_
  obtain ⟨o6533, h6534, h6535⟩ := bindS h
  refine WC.seqM (fun env w => ∃ (y6531 : Int), ∃ (y6532 : Int), (y6531, y6532) = o6533 ∧ env = [(0, .int .u64 y6531), (2, .int .i64 y6532)] ∧ Sta w0 M [] [] w) ?_ ?_
  · have h := h6534
    refine WC.seq ?_
    refine WC.reg ?_
    refine WL.val (R_move rfl) rfl rfl ?_
    refine WL.val (R_cmp rfl rfl rfl) rfl rfl ?_
    refine WL.nil ?_
    refine WQ.thenC ?_
    refine WC.cond rfl (fun hb6536 => ?_) (fun hb6536 => ?_)
    · have h := ifT hb6536 h
      refine WC.seq ?_
      refine WC.reg ?_
      refine WL.val (R_move rfl) rfl rfl ?_
      refine WL.val (R_sh rfl rfl rfl (by decide)) rfl rfl ?_
      refine WL.val (R_assign rfl) rfl rfl ?_
      refine WL.nil ?_
      refine WQ.thenC ?_
      refine WC.reg ?_
      refine WL.val (R_assign rfl) rfl rfl ?_
      refine WL.nil ?_
      have hS := hS.pick [] [] rfl
      exact WQ.toJ ⟨(shI .shr .u64 p6506 (32 : Int)), (32 : Int), Option.some.inj h, rfl, hS⟩ ⟨rfl, rfl, trivial⟩
    · have h := ifF hb6536 h
      refine WC.skip ?_
      have hS := hS.pick [] [] rfl
      exact WQ.toJ ⟨p6506, (0 : Int), Option.some.inj h, rfl, hS⟩ ⟨rfl, rfl, trivial⟩
  · rintro _ w ⟨y6531, y6532, rfl, rfl, hS⟩
    have h := h6535
    try dsimp only at h
    obtain ⟨o6540, h6541, h6542⟩ := bindS h
    refine WC.seqM (fun env w => ∃ (y6538 : Int), ∃ (y6539 : Int), (y6538, y6539) = o6540 ∧ env = [(0, .int .u64 y6538), (2, .int .i64 y6539)] ∧ Sta w0 M [] [] w) ?_ ?_
    · have h := h6541
      refine WC.seq ?_
      refine WC.reg ?_
      refine WL.val (R_move rfl) rfl rfl ?_
      refine WL.val (R_cmp rfl rfl rfl) rfl rfl ?_
      refine WL.nil ?_
      refine WQ.thenC ?_
      refine WC.cond rfl (fun hb6543 => ?_) (fun hb6543 => ?_)
      · have h := ifT hb6543 h
        refine WC.seq ?_
        refine WC.reg ?_
        refine WL.val (R_move rfl) rfl rfl ?_
        refine WL.val (R_sh rfl rfl rfl (by decide)) rfl rfl ?_
        refine WL.val (R_assign rfl) rfl rfl ?_
        refine WL.nil ?_
        refine WQ.thenC ?_
        refine WC.reg ?_
        refine WL.val (R_move rfl) rfl rfl ?_
        refine WL.val (R_ar rfl rfl rfl) rfl rfl ?_
        refine WL.val (R_assign rfl) rfl rfl ?_
        refine WL.nil ?_
        have hS := hS.pick [] [] rfl
        exact WQ.toJ ⟨(shI .shr .u64 y6531 (16 : Int)), (IntKind.i64.wrap (y6532 + (16 : Int))), Option.some.inj h, rfl, hS⟩ ⟨rfl, rfl, trivial⟩
      · have h := ifF hb6543 h
        refine WC.skip ?_
        have hS := hS.pick [] [] rfl
        exact WQ.toJ ⟨y6531, y6532, Option.some.inj h, rfl, hS⟩ ⟨rfl, rfl, trivial⟩
    · rintro _ w ⟨y6538, y6539, rfl, rfl, hS⟩
      have h := h6542
      try dsimp only at h
      obtain ⟨o6547, h6548, h6549⟩ := bindS h
      refine WC.seqM (fun env w => ∃ (y6545 : Int), ∃ (y6546 : Int), (y6545, y6546) = o6547 ∧ env = [(0, .int .u64 y6545), (2, .int .i64 y6546)] ∧ Sta w0 M [] [] w) ?_ ?_
      · have h := h6548
        refine WC.seq ?_
        refine WC.reg ?_
        refine WL.val (R_move rfl) rfl rfl ?_
        refine WL.val (R_cmp rfl rfl rfl) rfl rfl ?_
        refine WL.nil ?_
        refine WQ.thenC ?_
        refine WC.cond rfl (fun hb6550 => ?_) (fun hb6550 => ?_)
        · have h := ifT hb6550 h
          refine WC.seq ?_
          refine WC.reg ?_
          refine WL.val (R_move rfl) rfl rfl ?_
          refine WL.val (R_sh rfl rfl rfl (by decide)) rfl rfl ?_
          refine WL.val (R_assign rfl) rfl rfl ?_
          refine WL.nil ?_
          refine WQ.thenC ?_
          refine WC.reg ?_
          refine WL.val (R_move rfl) rfl rfl ?_
          refine WL.val (R_ar rfl rfl rfl) rfl rfl ?_
          refine WL.val (R_assign rfl) rfl rfl ?_
          refine WL.nil ?_
          have hS := hS.pick [] [] rfl
          exact WQ.toJ ⟨(shI .shr .u64 y6538 (8 : Int)), (IntKind.i64.wrap (y6539 + (8 : Int))), Option.some.inj h, rfl, hS⟩ ⟨rfl, rfl, trivial⟩
        · have h := ifF hb6550 h
          refine WC.skip ?_
          have hS := hS.pick [] [] rfl
          exact WQ.toJ ⟨y6538, y6539, Option.some.inj h, rfl, hS⟩ ⟨rfl, rfl, trivial⟩
      · rintro _ w ⟨y6545, y6546, rfl, rfl, hS⟩
        have h := h6549
        try dsimp only at h
        refine WC.seq ?_
        refine WC.reg ?_
        refine WL.val (R_move rfl) rfl rfl ?_
        refine WL.val (R_move rfl) rfl rfl ?_
        refine WL.val (R_convI ⟨_, u182⟩ u5 rfl) rfl rfl ?_
        obtain ⟨x6551, hx6552, h⟩ := bindS h
        refine WL.val (R_strIx' u9 rfl rfl hx6552) rfl rfl ?_
        refine WL.val (R_convI ⟨_, u5⟩ u3 rfl) rfl rfl ?_
        refine WL.val (R_ar rfl rfl rfl) rfl rfl ?_
        refine WL.val (R_assign rfl) rfl rfl ?_
        refine WL.nil ?_
        refine WQ.thenC ?_
        refine WC.ret ?_
        have hS0 := hS
        obtain rfl := Option.some.inj h
        exact ret_1 rfl rfl ⟨_, rfl, hS.bel, rfl⟩

def bits_Len (p6505 : Int) : Option Int :=
    (bits_Len64 p6505).bind fun r6555 =>
    some r6555

theorem bits_Len_ok {w0 : World} {M : MSet} (hM : ∀ k, M k → k < w0.heap.size) (p6505 : Int) (r : Int) (h : bits_Len p6505 = some r) :
    Calls Tryz.prog 225 #[.int .u64 p6505] w0 (Gives w0 fun v w' => v = .int .i64 r) := by
  have hS := Sta.init hM
  unfold bits_Len at h
  refine calls_enter (n := 0) Tryz.func225 rfl [(0, .int .u64 p6505)] rfl rfl ⟨rfl, trivial⟩ ?_
  refine WC.seq ?_
  refine WC.reg ?_
  refine WL.val (R_assign rfl) rfl rfl ?_
  refine WL.nil ?_
  refine WQ.thenC ?_
  refine WC.seq ?_
  refine WC.condF rfl ?_
  refine WC.skip ?_
  refine WQ.thenC ?_
  refine WC.seq ?_
  refine WC.reg ?_
  refine WL.val (R_move rfl) rfl rfl ?_
  obtain ⟨r6555, hr6556, h⟩ := bindS h
  refine WL.call e254 rfl rfl hS (bits_Len64_ok (hS).mx_lt p6505  _ hr6556) rfl ?_
  intro v w hB hS hP
  obtain ⟨rfl⟩ := hP
  refine WL.val (R_assign rfl) rfl rfl ?_
  refine WL.nil ?_
  refine WQ.thenC ?_
  refine WC.ret ?_
  have hS0 := hS
  obtain rfl := Option.some.inj h
  exact ret_1 rfl rfl ⟨_, rfl, hS.bel, rfl⟩

def cmp_isNaN_uint64 (p6593 : Int) : Option Bool :=
    some (decide (p6593 ≠ p6593))

theorem cmp_isNaN_uint64_ok {w0 : World} {M : MSet} (hM : ∀ k, M k → k < w0.heap.size) (p6593 : Int) (r : Bool) (h : cmp_isNaN_uint64 p6593 = some r) :
    Calls Tryz.prog 189 #[.int .u64 p6593] w0 (Gives w0 fun v w' => v = .bool r) := by
  have hS := Sta.init hM
  unfold cmp_isNaN_uint64 at h
  refine calls_enter (n := 0) Tryz.func189 rfl [(0, .int .u64 p6593)] rfl rfl ⟨rfl, trivial⟩ ?_
  refine WC.seq ?_
  refine WC.reg ?_
  refine WL.val (R_assign rfl) rfl rfl ?_
  refine WL.nil ?_
  refine WQ.thenC ?_
  refine WC.seq ?_
  refine WC.reg ?_
  refine WL.val (R_move rfl) rfl rfl ?_
  refine WL.val (R_move rfl) rfl rfl ?_
  refine WL.val (R_cmp rfl rfl rfl) rfl rfl ?_
  refine WL.val (R_assign rfl) rfl rfl ?_
  refine WL.nil ?_
  refine WQ.thenC ?_
  refine WC.ret ?_
  have hS0 := hS
  obtain rfl := Option.some.inj h
  exact ret_1 rfl rfl ⟨_, rfl, hS.bel, rfl⟩

def cmp_Less_uint64 (p6591 : Int) (p6592 : Int) : Option Bool :=
    (cmp_isNaN_uint64 p6591).bind fun r6600 =>
    if r6600 = true then ((cmp_isNaN_uint64 p6592).bind fun r6603 =>
    if (!r6603) = true then (some true) else (some (decide (p6591 < p6592)))) else (some (decide (p6591 < p6592)))

theorem cmp_Less_uint64_ok {w0 : World} {M : MSet} (hM : ∀ k, M k → k < w0.heap.size) (p6591 : Int) (p6592 : Int) (r : Bool) (h : cmp_Less_uint64 p6591 p6592 = some r) :
    Calls Tryz.prog 250 #[.int .u64 p6591, .int .u64 p6592] w0 (Gives w0 fun v w' => v = .bool r) := by
  have hS := Sta.init hM
  unfold cmp_Less_uint64 at h
  refine calls_enter (n := 0) Tryz.func250 rfl [(0, .int .u64 p6591), (1, .int .u64 p6592)] rfl rfl ⟨rfl, rfl, trivial⟩ ?_
  refine WC.seq ?_
  refine WC.reg ?_
  refine WL.val (R_assign rfl) rfl rfl ?_
  refine WL.nil ?_
  refine WQ.thenC ?_
  refine WC.seq ?_
  refine WC.reg ?_
  refine WL.val (R_move rfl) rfl rfl ?_
  obtain ⟨r6600, hr6601, h⟩ := bindS h
  refine WL.call e189 rfl rfl hS (cmp_isNaN_uint64_ok (hS).mx_lt p6591  _ hr6601) rfl ?_
  intro v w hB hS hP
  obtain ⟨rfl⟩ := hP
  refine WL.val (R_move rfl) rfl rfl ?_
  rcases boolS h with ⟨hb6602, h⟩ | ⟨hb6602, h⟩
  · refine WL.gvalb rfl rfl rfl hb6602 (R_move rfl) rfl rfl ?_
    obtain ⟨r6603, hr6604, h⟩ := bindS h
    refine WL.gcallb rfl rfl rfl hb6602 e189 rfl rfl hS (cmp_isNaN_uint64_ok (hS).mx_lt p6592  _ hr6604) rfl ?_
    intro v w hB hS hP
    obtain ⟨rfl⟩ := hP
    refine WL.gvalb rfl rfl rfl hb6602 (R_not rfl) rfl rfl ?_
    refine WL.val (R_pickTb rfl hb6602 rfl) rfl rfl ?_
    refine WL.val (R_move rfl) rfl rfl ?_
    rcases boolS h with ⟨hb6605, h⟩ | ⟨hb6605, h⟩
    · refine WL.gskip rfl rfl rfl hb6605 rfl ?_
      refine WL.gskip rfl rfl rfl hb6605 rfl ?_
      refine WL.gskip rfl rfl rfl hb6605 rfl ?_
      refine WL.val (R_pickTb rfl hb6605 rfl) rfl rfl ?_
      refine WL.val (R_assign rfl) rfl rfl ?_
      refine WL.nil ?_
      refine WQ.thenC ?_
      refine WC.ret ?_
      have hS0 := hS
      obtain rfl := Option.some.inj h
      exact ret_1 rfl rfl ⟨_, rfl, hS.bel, rfl⟩
    · refine WL.gvalb rfl rfl rfl hb6605 (R_move rfl) rfl rfl ?_
      refine WL.gvalb rfl rfl rfl hb6605 (R_move rfl) rfl rfl ?_
      refine WL.gvalb rfl rfl rfl hb6605 (R_cmp rfl rfl rfl) rfl rfl ?_
      refine WL.val (R_pickFb rfl hb6605 rfl) rfl rfl ?_
      refine WL.val (R_assign rfl) rfl rfl ?_
      refine WL.nil ?_
      refine WQ.thenC ?_
      refine WC.ret ?_
      have hS0 := hS
      obtain rfl := Option.some.inj h
      exact ret_1 rfl rfl ⟨_, rfl, hS.bel, rfl⟩
  · refine WL.gskip rfl rfl rfl hb6602 rfl ?_
    refine WL.gskip rfl rfl rfl hb6602 rfl ?_
    refine WL.gskip rfl rfl rfl hb6602 rfl ?_
    refine WL.val (R_pickFb rfl hb6602 rfl) rfl rfl ?_
    refine WL.val (R_move rfl) rfl rfl ?_
    refine WL.gvalb rfl rfl rfl rfl (R_move rfl) rfl rfl ?_
    refine WL.gvalb rfl rfl rfl rfl (R_move rfl) rfl rfl ?_
    refine WL.gvalb rfl rfl rfl rfl (R_cmp rfl rfl rfl) rfl rfl ?_
    refine WL.val (R_pickFb rfl rfl rfl) rfl rfl ?_
    refine WL.val (R_assign rfl) rfl rfl ?_
    refine WL.nil ?_
    refine WQ.thenC ?_
    refine WC.ret ?_
    have hS0 := hS
    obtain rfl := Option.some.inj h
    exact ret_1 rfl rfl ⟨_, rfl, hS.bel, rfl⟩

def slices_insertionSortOrdered_uint64_l0 (k : Nat) (p6571 : Int) (p6572 : Int) : Nat → Option Unit
  | 0 => none
  | m + 1 =>
    if decide ((IntKind.i64.wrap (p6571 + (1 : Int))) < p6572) = true then (none) else (some ())

def slices_insertionSortOrdered_uint64 (k : Nat) (p6567 : List Int) (p6571 : Int) (p6572 : Int) : Option Unit :=
    slices_insertionSortOrdered_uint64_l0 k p6571 p6572 k 

theorem slices_insertionSortOrdered_uint64_ok {w0 : World} {M : MSet} (hM : ∀ k, M k → k < w0.heap.size) (k : Nat) (p6567 : List Int) (p6571 : Int) (p6572 : Int) {A6568 : Option Addr} {c6569 : Nat} (hs6570 : p6567.length ≤ c6569 ∧ Sl (RI .u64) M w0 A6568 p6567) (h : slices_insertionSortOrdered_uint64 k p6567 p6571 p6572 = some ()) :
    Calls Tryz.prog 244 #[.slice A6568 p6567.length c6569, .int .i64 p6571, .int .i64 p6572] w0 (Gives w0 fun v w' => v = .tuple #[]) := by
  have hS := Sta.init hM
  have hS := hS.arg hs6570
  unfold slices_insertionSortOrdered_uint64 at h
  refine calls_enter (n := 0) Tryz.func244 rfl [(0, .slice A6568 p6567.length c6569), (1, .int .i64 p6571), (2, .int .i64 p6572)] rfl rfl ⟨rfl, rfl, rfl, trivial⟩ ?_
  refine WC.seq ?_
  refine WC.reg ?_
  refine WL.val (R_move rfl) rfl rfl ?_
  refine WL.val (R_ar rfl rfl rfl) rfl rfl ?_
  refine WL.val (R_assign rfl) rfl rfl ?_
  refine WL.nil ?_
  refine WQ.thenC ?_
  refine WC.block ?_
  have hS := hS.pick [] [0] rfl
  refine WC.loopJ (fun m env w => env = [(0, .slice A6568 p6567.length c6569), (1, .int .i64 p6571), (2, .int .i64 p6572), (6, .int .i64 (IntKind.i64.wrap (p6571 + (1 : Int))))] ∧ Sta w0 M [] [FSl (RI .u64) A6568 c6569 p6567] w ∧ slices_insertionSortOrdered_uint64_l0 k p6571 p6572 m  = some ()) k ⟨rfl, hS, h⟩ ⟨rfl, rfl, rfl, rfl, trivial⟩ (fun env w hI => ?_) (fun m env w hI => ?_)
  · obtain ⟨rfl, hS, h⟩ := hI
    rw [slices_insertionSortOrdered_uint64_l0] at h
    cases h
  · obtain ⟨rfl, hS, h⟩ := hI
    rw [slices_insertionSortOrdered_uint64_l0] at h
    refine WC.seq ?_
    refine WC.seq ?_
    refine WC.reg ?_
    refine WL.val (R_move rfl) rfl rfl ?_
    refine WL.val (R_move rfl) rfl rfl ?_
    refine WL.val (R_cmp rfl rfl rfl) rfl rfl ?_
    refine WL.nil ?_
    refine WQ.thenC ?_
    refine WC.cond rfl (fun hb6636 => ?_) (fun hb6636 => ?_)
    · have h := ifT hb6636 h
      cases h
    · have h := ifF hb6636 h
      refine WC.exit ?_
      refine WQ.thenE ?_
      refine WQ.thenE ?_
      refine WQ.blockE ?_
      have hS0 := hS
      exact ret_none rfl ⟨_, rfl, hS.bel, rfl⟩ .normal (.inr rfl)

def slices_pdqsortOrdered_uint64_l0 (k : Nat) (p6564 : Int) (p6563 : Int) (p6559 : List Int) (p6565 : Int) : Nat → Option Unit
  | 0 => none
  | m + 1 =>
    if decide ((IntKind.i64.wrap (p6564 - p6563)) ≤ (12 : Int)) = true then ((slices_insertionSortOrdered_uint64 k p6559 p6563 p6564).bind fun _ =>
    some ()) else (if decide (p6565 = (0 : Int)) = true then (none) else ((some () : Option Unit).bind fun _ =>
    none))

def slices_pdqsortOrdered_uint64 (k : Nat) (p6559 : List Int) (p6563 : Int) (p6564 : Int) (p6565 : Int) : Option Unit :=
    slices_pdqsortOrdered_uint64_l0 k p6564 p6563 p6559 p6565 k 

theorem slices_pdqsortOrdered_uint64_ok {w0 : World} {M : MSet} (hM : ∀ k, M k → k < w0.heap.size) (k : Nat) (p6559 : List Int) (p6563 : Int) (p6564 : Int) (p6565 : Int) {A6560 : Option Addr} {c6561 : Nat} (hs6562 : p6559.length ≤ c6561 ∧ Sl (RI .u64) M w0 A6560 p6559) (h : slices_pdqsortOrdered_uint64 k p6559 p6563 p6564 p6565 = some ()) :
    Calls Tryz.prog 224 #[.slice A6560 p6559.length c6561, .int .i64 p6563, .int .i64 p6564, .int .i64 p6565] w0 (Gives w0 fun v w' => v = .tuple #[]) := by
  have hS := Sta.init hM
  have hS := hS.arg hs6562
  unfold slices_pdqsortOrdered_uint64 at h
  refine calls_enter (n := 0) Tryz.func224 rfl [(0, .slice A6560 p6559.length c6561), (1, .int .i64 p6563), (2, .int .i64 p6564), (3, .int .i64 p6565)] rfl rfl ⟨rfl, rfl, rfl, rfl, trivial⟩ ?_
  refine WC.seq ?_
  refine WC.reg ?_
  refine WL.val (R_assign rfl) rfl rfl ?_
  refine WL.nil ?_
  refine WQ.thenC ?_
  refine WC.seq ?_
  refine WC.reg ?_
  refine WL.val (R_assign rfl) rfl rfl ?_
  refine WL.nil ?_
  refine WQ.thenC ?_
  refine WC.block ?_
  have hS := hS.pick [] [0] rfl
  refine WC.loopJ (fun m env w => env = [(0, .slice A6560 p6559.length c6561), (1, .int .i64 p6563), (2, .int .i64 p6564), (3, .int .i64 p6565), (8, .bool true), (9, .bool true)] ∧ Sta w0 M [] [FSl (RI .u64) A6560 c6561 p6559] w ∧ slices_pdqsortOrdered_uint64_l0 k p6564 p6563 p6559 p6565 m  = some ()) k ⟨rfl, hS, h⟩ ⟨rfl, rfl, rfl, rfl, rfl, rfl, trivial⟩ (fun env w hI => ?_) (fun m env w hI => ?_)
  · obtain ⟨rfl, hS, h⟩ := hI
    rw [slices_pdqsortOrdered_uint64_l0] at h
    cases h
  · obtain ⟨rfl, hS, h⟩ := hI
    rw [slices_pdqsortOrdered_uint64_l0] at h
    refine WC.block ?_
    refine WC.seq ?_
    refine WC.reg ?_
    refine WL.val (R_move rfl) rfl rfl ?_
    refine WL.val (R_move rfl) rfl rfl ?_
    refine WL.val (R_ar rfl rfl rfl) rfl rfl ?_
    refine WL.val (R_assign rfl) rfl rfl ?_
    refine WL.nil ?_
    refine WQ.thenC ?_
    refine WC.seq ?_
    refine WC.seq ?_
    refine WC.reg ?_
    refine WL.val (R_move rfl) rfl rfl ?_
    refine WL.val (R_cmp rfl rfl rfl) rfl rfl ?_
    refine WL.nil ?_
    refine WQ.thenC ?_
    refine WC.cond rfl (fun hb6671 => ?_) (fun hb6671 => ?_)
    · have h := ifT hb6671 h
      refine WC.seq ?_
      refine WC.reg ?_
      refine WL.val (R_move rfl) rfl rfl ?_
      refine WL.val (R_move rfl) rfl rfl ?_
      refine WL.val (R_move rfl) rfl rfl ?_
      obtain ⟨_, hr6672, h⟩ := bindS h
      refine WL.call e244 rfl rfl hS (slices_insertionSortOrdered_uint64_ok (hS).mx_lt k p6559 p6563 p6564 (hS.sl 0 rfl) hr6672) rfl ?_
      intro v w hB hS hP
      obtain ⟨rfl⟩ := hP
      refine WL.nil ?_
      refine WQ.thenC ?_
      refine WC.ret ?_
      refine WQ.thenR ?_
      refine WQ.blockR ?_
      refine WQ.thenR ?_
      refine WQ.blockR ?_
      have hS0 := hS
      exact ret_none rfl ⟨_, rfl, hS.bel, rfl⟩ .ret (.inl rfl)
    · have h := ifF hb6671 h
      refine WC.skip ?_
      refine WQ.thenC ?_
      refine WC.seq ?_
      refine WC.seq ?_
      refine WC.reg ?_
      refine WL.val (R_move rfl) rfl rfl ?_
      refine WL.val (R_cmp rfl rfl rfl) rfl rfl ?_
      refine WL.nil ?_
      refine WQ.thenC ?_
      refine WC.cond rfl (fun hb6673 => ?_) (fun hb6673 => ?_)
      · have h := ifT hb6673 h
        cases h
      · have h := ifF hb6673 h
        refine WC.skip ?_
        refine WQ.thenC ?_
        obtain ⟨o6674, h6675, h6676⟩ := bindS h
        refine WC.seqM (fun env w => () = o6674 ∧ env = [(0, .slice A6560 p6559.length c6561), (1, .int .i64 p6563), (2, .int .i64 p6564), (3, .int .i64 p6565), (8, .bool true), (9, .bool true), (10, .int .i64 (IntKind.i64.wrap (p6564 - p6563)))] ∧ Sta w0 M [] [FSl (RI .u64) A6560 c6561 p6559] w) ?_ ?_
        · have h := h6675
          refine WC.seq ?_
          refine WC.reg ?_
          refine WL.val (R_move rfl) rfl rfl ?_
          refine WL.val (R_not rfl) rfl rfl ?_
          refine WL.nil ?_
          refine WQ.thenC ?_
          refine WC.condF rfl ?_
          refine WC.skip ?_
          have hS := hS.pick [] [0] rfl
          exact WQ.toJ ⟨Option.some.inj h, rfl, hS⟩ ⟨rfl, rfl, rfl, rfl, rfl, rfl, rfl, trivial⟩
        · rintro _ w ⟨rfl, rfl, hS⟩
          have h := h6676
          try dsimp only at h
          cases h

def slices_Sort_uint64_uint64 (k : Nat) (p6501 : List Int) : Option Unit :=
    (bits_Len (IntKind.u64.wrap (p6501.length : Int))).bind fun r6678 =>
    (slices_pdqsortOrdered_uint64 k p6501 (0 : Int) (p6501.length : Int) r6678).bind fun _ =>
    some ()

theorem slices_Sort_uint64_uint64_ok {w0 : World} {M : MSet} (hM : ∀ k, M k → k < w0.heap.size) (k : Nat) (p6501 : List Int) {A6502 : Option Addr} {c6503 : Nat} (hs6504 : p6501.length ≤ c6503 ∧ Sl (RI .u64) M w0 A6502 p6501) (h : slices_Sort_uint64_uint64 k p6501 = some ()) :
    Calls Tryz.prog 193 #[.slice A6502 p6501.length c6503] w0 (Gives w0 fun v w' => v = .tuple #[]) := by
  have hS := Sta.init hM
  have hS := hS.arg hs6504
  unfold slices_Sort_uint64_uint64 at h
  refine calls_enter (n := 0) Tryz.func193 rfl [(0, .slice A6502 p6501.length c6503)] rfl rfl ⟨rfl, trivial⟩ ?_
  refine WC.seq ?_
  refine WC.reg ?_
  refine WL.val (R_move rfl) rfl rfl ?_
  refine WL.val (R_lenS u299 rfl) rfl rfl ?_
  refine WL.val (R_assign rfl) rfl rfl ?_
  refine WL.nil ?_
  refine WQ.thenC ?_
  refine WC.reg ?_
  refine WL.val (R_move rfl) rfl rfl ?_
  refine WL.val (R_move rfl) rfl rfl ?_
  refine WL.val (R_move rfl) rfl rfl ?_
  refine WL.val (R_convI ⟨_, u3⟩ u287 rfl) rfl rfl ?_
  obtain ⟨r6678, hr6679, h⟩ := bindS h
  refine WL.call e225 rfl rfl hS (bits_Len_ok (hS).mx_lt (IntKind.u64.wrap (p6501.length : Int))  _ hr6679) rfl ?_
  intro v w hB hS hP
  obtain ⟨rfl⟩ := hP
  obtain ⟨_, hr6680, h⟩ := bindS h
  refine WL.call e224 rfl rfl hS (slices_pdqsortOrdered_uint64_ok (hS).mx_lt k p6501 (0 : Int) (p6501.length : Int) r6678 (hS.sl 0 rfl) hr6680) rfl ?_
  intro v w hB hS hP
  obtain ⟨rfl⟩ := hP
  refine WL.nil ?_
  have hS0 := hS
  exact ret_none rfl ⟨_, rfl, hS.bel, rfl⟩ .normal (.inr rfl)

def math_NaN : Option Nat :=
    some ((9221120237041090561 : Int).toNat)

theorem math_NaN_ok {w0 : World} {M : MSet} (hM : ∀ k, M k → k < w0.heap.size) (r : Nat) (h : math_NaN = some r) :
    Calls Tryz.prog 146 #[] w0 (Gives w0 fun v w' => v = .float .f64 r) := by
  have hS := Sta.init hM
  unfold math_NaN at h
  refine calls_enter (n := 0) Tryz.func146 rfl [] rfl rfl trivial ?_
  refine WC.seq ?_
  refine WC.reg ?_
  refine WL.val (R_assign rfl) rfl rfl ?_
  refine WL.nil ?_
  refine WQ.thenC ?_
  refine WC.seq ?_
  refine WC.reg ?_
  refine WL.val (R_f64from xf191 rfl) rfl rfl ?_
  refine WL.val (R_assign rfl) rfl rfl ?_
  refine WL.nil ?_
  refine WQ.thenC ?_
  refine WC.ret ?_
  have hS0 := hS
  obtain rfl := Option.some.inj h
  exact ret_1 rfl rfl ⟨_, rfl, hS.bel, rfl⟩

def order_At (p6691 : Int) : Option (Nat × Int) :=
    if decide ((18437736874454810625 : Int) < p6691) = true then (some ((0 : Nat), (2 : Int))) else (if decide (p6691 = (18437736874454810625 : Int)) = true then ((math_NaN).bind fun r6699 =>
    some (r6699, (0 : Int))) else (if decide ((9218868437227405312 : Int) ≤ p6691) = true then (some ((IntKind.u64.wrap (p6691 - (9218868437227405312 : Int))).toNat, (0 : Int))) else (some ((btI .or .u64 (9223372036854775808 : Int) (IntKind.u64.wrap ((9218868437227405312 : Int) - p6691))).toNat, (0 : Int)))))

theorem order_At_ok {w0 : World} {M : MSet} (hM : ∀ k, M k → k < w0.heap.size) (p6691 : Int) (r1 : Nat) (r2 : Int) (h : order_At p6691 = some (r1, r2)) :
    Calls Tryz.prog 194 #[.int .u64 p6691] w0 (Gives w0 fun v w' => v = .tuple #[.float .f64 r1, .int .i64 r2]) := by
  have hS := Sta.init hM
  unfold order_At at h
  refine calls_enter (n := 0) Tryz.func194 rfl [(0, .int .u64 p6691)] rfl rfl ⟨rfl, trivial⟩ ?_
  refine WC.seq ?_
  refine WC.reg ?_
  refine WL.val (R_assign rfl) rfl rfl ?_
  refine WL.val (R_assign rfl) rfl rfl ?_
  refine WL.nil ?_
  refine WQ.thenC ?_
  refine WC.seq ?_
  refine WC.block ?_
  refine WC.seq ?_
  refine WC.reg ?_
  refine WL.val (R_move rfl) rfl rfl ?_
  refine WL.val (R_cmp rfl rfl rfl) rfl rfl ?_
  refine WL.val (R_assign rfl) rfl rfl ?_
  refine WL.nil ?_
  refine WQ.thenC ?_
  refine WC.cond rfl (fun hb6697 => ?_) (fun hb6697 => ?_)
  · have h := ifT hb6697 h
    refine WC.seq ?_
    refine WC.reg ?_
    refine WL.val (R_assign rfl) rfl rfl ?_
    refine WL.val (R_assign rfl) rfl rfl ?_
    refine WL.nil ?_
    refine WQ.thenC ?_
    refine WC.ret ?_
    refine WQ.blockR ?_
    refine WQ.thenR ?_
    have hS0 := hS
    have h := Option.some.inj h
    obtain ⟨rfl, rfl⟩ := Prod.mk.inj h
    exact ret_2 rfl rfl rfl ⟨_, rfl, hS.bel, rfl⟩
  · have h := ifF hb6697 h
    refine WC.seq ?_
    refine WC.reg ?_
    refine WL.val (R_move rfl) rfl rfl ?_
    refine WL.val (R_cmp rfl rfl rfl) rfl rfl ?_
    refine WL.val (R_assign rfl) rfl rfl ?_
    refine WL.nil ?_
    refine WQ.thenC ?_
    refine WC.cond rfl (fun hb6698 => ?_) (fun hb6698 => ?_)
    · have h := ifT hb6698 h
      refine WC.seq ?_
      refine WC.reg ?_
      obtain ⟨r6699, hr6700, h⟩ := bindS h
      refine WL.call e146 rfl rfl hS (math_NaN_ok (hS).mx_lt   _ hr6700) rfl ?_
      intro v w hB hS hP
      obtain ⟨rfl⟩ := hP
      refine WL.val (R_assign rfl) rfl rfl ?_
      refine WL.val (R_assign rfl) rfl rfl ?_
      refine WL.nil ?_
      refine WQ.thenC ?_
      refine WC.ret ?_
      refine WQ.blockR ?_
      refine WQ.thenR ?_
      have hS0 := hS
      have h := Option.some.inj h
      obtain ⟨rfl, rfl⟩ := Prod.mk.inj h
      exact ret_2 rfl rfl rfl ⟨_, rfl, hS.bel, rfl⟩
    · have h := ifF hb6698 h
      refine WC.seq ?_
      refine WC.reg ?_
      refine WL.val (R_move rfl) rfl rfl ?_
      refine WL.val (R_cmp rfl rfl rfl) rfl rfl ?_
      refine WL.val (R_assign rfl) rfl rfl ?_
      refine WL.nil ?_
      refine WQ.thenC ?_
      refine WC.cond rfl (fun hb6701 => ?_) (fun hb6701 => ?_)
      · have h := ifT hb6701 h
        refine WC.seq ?_
        refine WC.reg ?_
        refine WL.val (R_move rfl) rfl rfl ?_
        refine WL.val (R_ar rfl rfl rfl) rfl rfl ?_
        refine WL.val (R_f64from xf191 rfl) rfl rfl ?_
        refine WL.val (R_assign rfl) rfl rfl ?_
        refine WL.val (R_assign rfl) rfl rfl ?_
        refine WL.nil ?_
        refine WQ.thenC ?_
        refine WC.ret ?_
        refine WQ.blockR ?_
        refine WQ.thenR ?_
        have hS0 := hS
        have h := Option.some.inj h
        obtain ⟨rfl, rfl⟩ := Prod.mk.inj h
        exact ret_2 rfl rfl rfl ⟨_, rfl, hS.bel, rfl⟩
      · have h := ifF hb6701 h
        refine WC.skip ?_
        refine WQ.blockN ?_
        refine WQ.thenC ?_
        refine WC.seq ?_
        refine WC.reg ?_
        refine WL.val (R_move rfl) rfl rfl ?_
        refine WL.val (R_ar rfl rfl rfl) rfl rfl ?_
        refine WL.val (R_bt rfl rfl rfl) rfl rfl ?_
        refine WL.val (R_f64from xf191 rfl) rfl rfl ?_
        refine WL.val (R_assign rfl) rfl rfl ?_
        refine WL.val (R_assign rfl) rfl rfl ?_
        refine WL.nil ?_
        refine WQ.thenC ?_
        refine WC.ret ?_
        have hS0 := hS
        have h := Option.some.inj h
        obtain ⟨rfl, rfl⟩ := Prod.mk.inj h
        exact ret_2 rfl rfl rfl ⟨_, rfl, hS.bel, rfl⟩

def order_Distinct_l0 (k : Nat) (p6408 : List Nat) : Nat → (List (Int × Int)) → Int → Option (List (Int × Int))
  | 0, _, _ => none
  | m + 1, y6817, y6818 =>
    if decide (y6818 < (p6408.length : Int)) = true then ((rd p6408 y6818).bind fun x6832 =>
    if (cmpF .eql x6832 x6832) = true then ((order_Key x6832).bind fun r6841 =>
    order_Distinct_l0 k p6408 m (mput y6817 r6841 (IntKind.i64.wrap ((mget (0 : Int) y6817 r6841) + (1 : Int)))) (IntKind.i64.wrap (y6818 + (1 : Int)))) else (order_Distinct_l0 k p6408 m y6817 (IntKind.i64.wrap (y6818 + (1 : Int))))) else (some y6817)

def order_Distinct_l1 (k : Nat) (y6856 : List Int) : Nat → (List Nat) → Int → Option (List Nat)
  | 0, _, _ => none
  | m + 1, y6934, y6935 =>
    if decide (y6935 < (y6856.length : Int)) = true then ((rd y6856 y6935).bind fun x6953 =>
    (order_At x6953).bind fun ⟨r6961, r6962⟩ =>
    if (y6934.length + 1) * 8 ≤ 140737488355328 then (order_Distinct_l1 k y6856 m (y6934 ++ [r6961]) (IntKind.i64.wrap (y6935 + (1 : Int)))) else none) else (some y6934)

def order_Distinct (k : Nat) (p6408 : List Nat) : Option (List Nat) :=
    (order_Distinct_l0 k p6408 k ([] : List (Int × Int)) (0 : Int) : Option (List (Int × Int))).bind fun y6801 =>
    (m3 y6801 (some ([] : List Int)) fun q6860 =>
    if (([] : List Int).length + 1) * 8 ≤ 140737488355328 then (some (([] : List Int) ++ [q6860.1])) else none : Option (List Int)).bind fun y6856 =>
    (slices_Sort_uint64_uint64 k y6856).bind fun _ =>
    (order_Distinct_l1 k y6856 k ([] : List Nat) (0 : Int) : Option (List Nat)).bind fun y6911 =>
    some y6911

theorem order_Distinct_ok {w0 : World} {M : MSet} (hM : ∀ k, M k → k < w0.heap.size) (k : Nat) (p6408 : List Nat) {A6409 : Option Addr} {c6410 : Nat} (hs6411 : p6408.length ≤ c6410 ∧ Sl RF M w0 A6409 p6408) (r : List Nat) (h : order_Distinct k p6408 = some r) :
    Calls Tryz.prog 145 #[.slice A6409 p6408.length c6410] w0 (Gives w0 fun v w' => ∃ (Ao : Option Addr), ∃ (no co : Nat), v = .slice Ao no co ∧ (Row RF 54 (.slice Ao no co) r).ok w0.heap.size (Mx M [Row RF 54 (.slice Ao no co) r]) w') := by
  have hS := Sta.init hM
  have hS := hS.arg hs6411
  unfold order_Distinct at h
  refine calls_enter (n := 0) Tryz.func145 rfl [(0, .slice A6409 p6408.length c6410)] rfl rfl ⟨rfl, trivial⟩ ?_
  refine WC.seq ?_
  refine WC.reg ?_
  refine WL.val (R_assign rfl) rfl rfl ?_
  refine WL.nil ?_
  refine WQ.thenC ?_
  refine WC.seq ?_
  refine WC.reg ?_
  refine WL.makeMap (fun a : Int => .int .u64 a) (fun a : Int => .int .i64 a) hS rfl ?_
  intro b6774 w hS
  refine WL.val (R_assign rfl) rfl rfl ?_
  refine WL.nil ?_
  refine WQ.thenC ?_
  obtain ⟨o6802, h6803, h6804⟩ := bindS h
  refine WC.seqM (fun env w => ∃ (y6801 : List (Int × Int)), y6801 = o6802 ∧ env = [(3, .map (some b6774))] ∧ Sta w0 M [MapR b6774 (fun a : Int => .int .u64 a) (fun a : Int => .int .i64 a) y6801] [] w) ?_ ?_
  · have h := h6803
    refine WC.seq ?_
    refine WC.reg ?_
    refine WL.val (R_move rfl) rfl rfl ?_
    refine WL.val (R_lenS u65 rfl) rfl rfl ?_
    refine WL.val (R_move rfl) rfl rfl ?_
    refine WL.nil ?_
    refine WQ.thenC ?_
    refine WC.block ?_
    have hS := hS.pick [0] [0] rfl
    refine WC.loopJ (fun m env w => ∃ (y6817 : List (Int × Int)), ∃ (y6818 : Int), env = [(3, .map (some b6774)), (14, .slice A6409 p6408.length c6410), (15, .int .i64 (p6408.length : Int)), (16, .int .i64 y6818)] ∧ Sta w0 M [MapR b6774 (fun a : Int => .int .u64 a) (fun a : Int => .int .i64 a) y6817] [FSl RF A6409 c6410 p6408] w ∧ order_Distinct_l0 k p6408 m y6817 y6818 = some o6802) k ⟨([] : List (Int × Int)), (0 : Int), rfl, hS, h⟩ ⟨rfl, rfl, rfl, rfl, trivial⟩ (fun env w hI => ?_) (fun m env w hI => ?_)
    · obtain ⟨y6817, y6818, rfl, hS, h⟩ := hI
      rw [order_Distinct_l0] at h
      cases h
    · obtain ⟨y6817, y6818, rfl, hS, h⟩ := hI
      rw [order_Distinct_l0] at h
      refine WC.seq ?_
      refine WC.reg ?_
      refine WL.val (R_cmp rfl rfl rfl) rfl rfl ?_
      refine WL.nil ?_
      refine WQ.thenC ?_
      refine WC.seq ?_
      refine WC.cond rfl (fun hb6831 => ?_) (fun hb6831 => ?_)
      · have h := ifT hb6831 h
        refine WC.skip ?_
        refine WQ.thenC ?_
        refine WC.seq ?_
        refine WC.block ?_
        refine WC.seq ?_
        refine WC.reg ?_
        obtain ⟨x6832, hx6833, h⟩ := bindS h
        obtain ⟨ad6834, cs6835, hA6836, hq6837, hK6838, hc6839⟩ := hS.sget 0 rfl (rdS hx6833).2.2
        obtain rfl := hK6838
        refine WL.val (R_indexAddr u65 z54 rfl rfl hA6836 (rdS hx6833).1 hq6837) rfl rfl ?_
        refine WL.val (R_load1 g54 rfl (hc6839 0 _ rfl)) rfl rfl ?_
        refine WL.val (R_assign rfl) rfl rfl ?_
        refine WL.nil ?_
        refine WQ.thenC ?_
        refine WC.seq ?_
        refine WC.reg ?_
        refine WL.val (R_move rfl) rfl rfl ?_
        refine WL.val (R_move rfl) rfl rfl ?_
        refine WL.val (R_cmpF rfl rfl rfl) rfl rfl ?_
        refine WL.nil ?_
        refine WQ.thenC ?_
        refine WC.cond rfl (fun hb6840 => ?_) (fun hb6840 => ?_)
        · have h := ifT hb6840 h
          refine WC.reg ?_
          refine WL.val (R_move rfl) rfl rfl ?_
          refine WL.val (R_move rfl) rfl rfl ?_
          obtain ⟨r6841, hr6842, h⟩ := bindS h
          refine WL.call e133 rfl rfl hS (order_Key_ok (hS).mx_lt x6832  _ hr6842) rfl ?_
          intro v w hB hS hP
          obtain ⟨rfl⟩ := hP
          refine WL.val (R_lookup 0 (0 : Int) u298 kt182 z3 hS rfl rfl rfl) rfl rfl ?_
          refine WL.val (R_ar rfl rfl rfl) rfl rfl ?_
          refine WL.mapUpdate (v := (IntKind.i64.wrap ((mget (0 : Int) y6817 r6841) + (1 : Int)))) 0 u298 kt182 hS rfl rfl rfl rfl ?_
          intro w hS
          refine WL.nil ?_
          refine WQ.blockN ?_
          refine WQ.thenC ?_
          refine WC.reg ?_
          refine WL.val (R_ar rfl rfl rfl) rfl rfl ?_
          refine WL.val (R_move rfl) rfl rfl ?_
          refine WL.nil ?_
          have hS := hS.pick [0] [0] rfl
          exact WQ.toJ ⟨(mput y6817 r6841 (IntKind.i64.wrap ((mget (0 : Int) y6817 r6841) + (1 : Int)))), (IntKind.i64.wrap (y6818 + (1 : Int))), rfl, hS, h⟩ ⟨rfl, rfl, rfl, rfl, trivial⟩
        · have h := ifF hb6840 h
          refine WC.skip ?_
          refine WQ.blockN ?_
          refine WQ.thenC ?_
          refine WC.reg ?_
          refine WL.val (R_ar rfl rfl rfl) rfl rfl ?_
          refine WL.val (R_move rfl) rfl rfl ?_
          refine WL.nil ?_
          have hS := hS.pick [0] [0] rfl
          exact WQ.toJ ⟨y6817, (IntKind.i64.wrap (y6818 + (1 : Int))), rfl, hS, h⟩ ⟨rfl, rfl, rfl, rfl, trivial⟩
      · have h := ifF hb6831 h
        refine WC.exit ?_
        refine WQ.thenE ?_
        refine WQ.thenE ?_
        refine WQ.blockE ?_
        have hS := hS.pick [0] [] rfl
        exact WQ.toJ ⟨y6817, Option.some.inj h, rfl, hS⟩ ⟨rfl, trivial⟩
  · rintro _ w ⟨y6801, rfl, rfl, hS⟩
    have h := h6804
    try dsimp only at h
    refine WC.seq ?_
    refine WC.reg ?_
    refine WL.val (R_assign rfl) rfl rfl ?_
    refine WL.nil ?_
    refine WQ.thenC ?_
    obtain ⟨o6857, h6858, h6859⟩ := bindS h
    refine WC.seqM (fun env w => ∃ (y6856 : List Int), ∃ (A6853 : Option Addr), ∃ (n6854 : Nat), ∃ (c6855 : Nat), y6856 = o6857 ∧ env = [(6, .slice A6853 n6854 c6855)] ∧ Sta w0 M [Row (RI .u64) 182 (.slice A6853 n6854 c6855) y6856] [] w) ?_ ?_
    · have h := h6858
      refine WC.seq ?_
      refine WC.reg ?_
      refine WL.val (R_move rfl) rfl rfl ?_
      rcases m3S h with ⟨he6861, h⟩ | ⟨q6860, he6861, h⟩
      · rw [he6861] at hS
        obtain ⟨clock6862, hS⟩ := hS.open0 0 rfl
        refine WL.range 0 u298 hS rfl rfl rfl ?_
        intro b6865 w hS
        refine WL.nil ?_
        refine WQ.thenC ?_
        refine WC.block ?_
        refine WC.loopR 64 ?_
        refine WR.step ?_
        refine WC.seq ?_
        refine WC.reg ?_
        refine WL.next0 1 0 hS rfl rfl rfl rfl ?_
        refine WL.val (R_extract rfl rfl) rfl rfl ?_
        refine WL.nil ?_
        refine WQ.thenC ?_
        refine WC.seq ?_
        refine WC.condF rfl ?_
        refine WC.exit ?_
        refine WQ.thenE ?_
        refine WQ.thenE ?_
        refine WQ.blockE ?_
        have hS := hS.nilRow (RI .u64) 182
        have hS := hS.pick [0] [] rfl
        exact WQ.toJ ⟨([] : List Int), none, 0, 0, Option.some.inj h, rfl, hS⟩ ⟨rfl, trivial⟩
      · rw [he6861] at hS
        obtain ⟨clock6862, born6863, hb6864, hS⟩ := hS.open1 0 rfl
        refine WL.range 0 u298 hS rfl rfl rfl ?_
        intro b6865 w hS
        refine WL.nil ?_
        refine WQ.thenC ?_
        refine WC.block ?_
        refine WC.loopR 64 ?_
        refine WR.step ?_
        refine WC.seq ?_
        refine WC.reg ?_
        refine WL.next1 1 0 hS rfl rfl rfl hb6864 rfl ?_
        intro w hS
        refine WL.val (R_extract rfl rfl) rfl rfl ?_
        refine WL.nil ?_
        refine WQ.thenC ?_
        refine WC.seq ?_
        refine WC.condT rfl ?_
        refine WC.skip ?_
        refine WQ.thenC ?_
        refine WC.block ?_
        refine WC.seq ?_
        refine WC.reg ?_
        refine WL.val (R_entry1 1 0 hS rfl rfl rfl) rfl rfl ?_
        refine WL.val (R_extract rfl rfl) rfl rfl ?_
        refine WL.val (R_assign rfl) rfl rfl ?_
        refine WL.nil ?_
        refine WQ.thenC ?_
        refine WC.reg ?_
        refine WL.val (R_move rfl) rfl rfl ?_
        refine WL.val (R_move rfl) rfl rfl ?_
        refine WL.lit [.int .u64 q6860.1] u299 rfl (by kernel_rfl) hS rfl ?_
        intro b6866 w hS
        have hS := hS.nilRow (RI .u64) 182
        obtain ⟨hg6867, h⟩ := grdS h
        refine WL.append (R := (RI .u64)) (zs := [q6860.1]) 0 u299 z182 rfl rfl rfl hS rfl rfl rfl rfl (Blk.src (hS.res 1 rfl) ⟨[_], _, rfl, rfl, rfl⟩) hg6867 rfl rfl ?_
        intro A6868 c6869 w hS
        refine WL.val (R_assign rfl) rfl rfl ?_
        refine WL.nil ?_
        refine WQ.blockN ?_
        refine WQ.thenW ?_
        refine WR.step ?_
        refine WC.seq ?_
        refine WC.reg ?_
        refine WL.next2 3 2 hS rfl rfl rfl hb6864 rfl ?_
        refine WL.val (R_extract rfl rfl) rfl rfl ?_
        refine WL.nil ?_
        refine WQ.thenC ?_
        refine WC.seq ?_
        refine WC.condF rfl ?_
        refine WC.exit ?_
        refine WQ.thenE ?_
        refine WQ.thenE ?_
        refine WQ.blockE ?_
        have hS := hS.pick [0] [] rfl
        exact WQ.toJ ⟨(([] : List Int) ++ [q6860.1]), A6868, (([] : List Int) ++ [q6860.1]).length, c6869, Option.some.inj h, rfl, hS⟩ ⟨rfl, trivial⟩
    · rintro _ w ⟨y6856, A6853, n6854, c6855, rfl, rfl, hS⟩
      have h := h6859
      try dsimp only at h
      obtain rfl := Row.len (hS.res 0 rfl)
      refine WC.seq ?_
      refine WC.reg ?_
      refine WL.val (R_move rfl) rfl rfl ?_
      have hS := hS.freeze 0 rfl
      obtain ⟨_, hr6870, h⟩ := bindS h
      refine WL.call e193 rfl rfl hS (slices_Sort_uint64_uint64_ok (hS).mx_lt k y6856 (hS.sl 0 rfl) hr6870) rfl ?_
      intro v w hB hS hP
      obtain ⟨rfl⟩ := hP
      refine WL.nil ?_
      refine WQ.thenC ?_
      refine WC.seq ?_
      refine WC.reg ?_
      refine WL.val (R_assign rfl) rfl rfl ?_
      refine WL.nil ?_
      refine WQ.thenC ?_
      obtain ⟨o6912, h6913, h6914⟩ := bindS h
      refine WC.seqM (fun env w => ∃ (y6911 : List Nat), ∃ (A6908 : Option Addr), ∃ (n6909 : Nat), ∃ (c6910 : Nat), y6911 = o6912 ∧ env = [(8, .slice A6908 n6909 c6910)] ∧ Sta w0 M [Row RF 54 (.slice A6908 n6909 c6910) y6911] [] w) ?_ ?_
      · have h := h6913
        refine WC.seq ?_
        refine WC.reg ?_
        refine WL.val (R_move rfl) rfl rfl ?_
        refine WL.val (R_lenS u299 rfl) rfl rfl ?_
        refine WL.val (R_move rfl) rfl rfl ?_
        refine WL.nil ?_
        refine WQ.thenC ?_
        refine WC.block ?_
        have hS := hS.nilRow RF 54
        have hS := hS.pick [0] [0] rfl
        refine WC.loopJ (fun m env w => ∃ (y6934 : List Nat), ∃ (y6935 : Int), ∃ (A6931 : Option Addr), ∃ (n6932 : Nat), ∃ (c6933 : Nat), env = [(8, .slice A6931 n6932 c6933), (41, .slice A6853 y6856.length c6855), (42, .int .i64 (y6856.length : Int)), (43, .int .i64 y6935)] ∧ Sta w0 M [Row RF 54 (.slice A6931 n6932 c6933) y6934] [FSl (RI .u64) A6853 c6855 y6856] w ∧ order_Distinct_l1 k y6856 m y6934 y6935 = some o6912) k ⟨([] : List Nat), (0 : Int), none, 0, 0, rfl, hS, h⟩ ⟨rfl, rfl, rfl, rfl, trivial⟩ (fun env w hI => ?_) (fun m env w hI => ?_)
        · obtain ⟨y6934, y6935, A6931, n6932, c6933, rfl, hS, h⟩ := hI
          rw [order_Distinct_l1] at h
          cases h
        · obtain ⟨y6934, y6935, A6931, n6932, c6933, rfl, hS, h⟩ := hI
          rw [order_Distinct_l1] at h
          obtain rfl := Row.len (hS.res 0 rfl)
          refine WC.seq ?_
          refine WC.reg ?_
          refine WL.val (R_cmp rfl rfl rfl) rfl rfl ?_
          refine WL.nil ?_
          refine WQ.thenC ?_
          refine WC.seq ?_
          refine WC.cond rfl (fun hb6952 => ?_) (fun hb6952 => ?_)
          · have h := ifT hb6952 h
            refine WC.skip ?_
            refine WQ.thenC ?_
            refine WC.seq ?_
            refine WC.block ?_
            refine WC.seq ?_
            refine WC.reg ?_
            obtain ⟨x6953, hx6954, h⟩ := bindS h
            obtain ⟨ad6955, cs6956, hA6957, hq6958, hK6959, hc6960⟩ := hS.sget 0 rfl (rdS hx6954).2.2
            obtain rfl := hK6959
            refine WL.val (R_indexAddr u299 z182 rfl rfl hA6957 (rdS hx6954).1 hq6958) rfl rfl ?_
            refine WL.val (R_load1 g182 rfl (hc6960 0 _ rfl)) rfl rfl ?_
            refine WL.val (R_assign rfl) rfl rfl ?_
            refine WL.nil ?_
            refine WQ.thenC ?_
            refine WC.seq ?_
            refine WC.reg ?_
            refine WL.val (R_move rfl) rfl rfl ?_
            obtain ⟨⟨r6961, r6962⟩, hr6963, h⟩ := bindS h
            try dsimp only at h
            refine WL.call e194 rfl rfl hS (order_At_ok (hS).mx_lt x6953  _ _ hr6963) rfl ?_
            intro v w hB hS hP
            obtain ⟨rfl⟩ := hP
            refine WL.val (R_move rfl) rfl rfl ?_
            refine WL.val (R_extract rfl rfl) rfl rfl ?_
            refine WL.val (R_extract rfl rfl) rfl rfl ?_
            refine WL.val (R_assign rfl) rfl rfl ?_
            refine WL.val (R_assign rfl) rfl rfl ?_
            refine WL.nil ?_
            refine WQ.thenC ?_
            refine WC.reg ?_
            refine WL.val (R_move rfl) rfl rfl ?_
            refine WL.val (R_move rfl) rfl rfl ?_
            refine WL.lit [.float .f64 r6961] u65 rfl (by kernel_rfl) hS rfl ?_
            intro b6964 w hS
            obtain ⟨hg6965, h⟩ := grdS h
            refine WL.append (R := RF) (zs := [r6961]) 1 u65 z54 rfl rfl rfl hS rfl rfl rfl rfl (Blk.src (hS.res 0 rfl) ⟨[_], _, rfl, rfl, rfl⟩) hg6965 rfl rfl ?_
            intro A6966 c6967 w hS
            refine WL.val (R_assign rfl) rfl rfl ?_
            refine WL.nil ?_
            refine WQ.blockN ?_
            refine WQ.thenC ?_
            refine WC.reg ?_
            refine WL.val (R_ar rfl rfl rfl) rfl rfl ?_
            refine WL.val (R_move rfl) rfl rfl ?_
            refine WL.nil ?_
            have hS := hS.pick [1] [0] rfl
            exact WQ.toJ ⟨(y6934 ++ [r6961]), (IntKind.i64.wrap (y6935 + (1 : Int))), A6966, (y6934 ++ [r6961]).length, c6967, rfl, hS, h⟩ ⟨rfl, rfl, rfl, rfl, trivial⟩
          · have h := ifF hb6952 h
            refine WC.exit ?_
            refine WQ.thenE ?_
            refine WQ.thenE ?_
            refine WQ.blockE ?_
            have hS := hS.pick [0] [] rfl
            exact WQ.toJ ⟨y6934, A6931, y6934.length, c6933, Option.some.inj h, rfl, hS⟩ ⟨rfl, trivial⟩
      · rintro _ w ⟨y6911, A6908, n6909, c6910, rfl, rfl, hS⟩
        have h := h6914
        try dsimp only at h
        obtain rfl := Row.len (hS.res 0 rfl)
        refine WC.seq ?_
        refine WC.reg ?_
        refine WL.val (R_move rfl) rfl rfl ?_
        refine WL.val (R_assign rfl) rfl rfl ?_
        refine WL.nil ?_
        refine WQ.thenC ?_
        refine WC.ret ?_
        have hS0 := hS
        have hS := hS.pick [0] [] rfl
        obtain rfl := Option.some.inj h
        exact ret_1 rfl rfl ⟨_, rfl, hS.bel, ⟨A6908, y6911.length, c6910, rfl, hS.res 0 rfl⟩⟩

def lists_Thresholds_l1 (k : Nat) (x8210 : Tree) (p5310 : Int) : Nat → (List Nat) → Int → Option (List Nat)
  | 0, _, _ => none
  | m + 1, y8282, y8283 =>
    if decide (y8283 < (x8210.nodes.length : Int)) = true then (((rd x8210.nodes y8283).bind fun x8380 =>
    if decide (x8380.kind = (2 : Int)) = true then (if decide (x8380.feature = p5310) = true then (if (y8282.length + 1) * 8 ≤ 140737488355328 then (some (y8282 ++ [x8380.threshold])) else none) else (some y8282)) else (some y8282) : Option (List Nat)).bind fun y8363 =>
    lists_Thresholds_l1 k x8210 p5310 m y8363 (IntKind.i64.wrap (y8283 + (1 : Int)))) else (some y8282)

def lists_Thresholds_l0 (k : Nat) (p5306 : List Tree) (p5310 : Int) : Nat → (List Nat) → Int → Option (List Nat)
  | 0, _, _ => none
  | m + 1, y7799, y7800 =>
    if decide (y7800 < (p5306.length : Int)) = true then (((rd p5306 y7800).bind fun x8210 =>
    lists_Thresholds_l1 k x8210 p5310 k y7799 (0 : Int) : Option (List Nat)).bind fun y8206 =>
    lists_Thresholds_l0 k p5306 p5310 m y8206 (IntKind.i64.wrap (y7800 + (1 : Int)))) else (some y7799)

def lists_Thresholds (k : Nat) (p5306 : List Tree) (p5310 : Int) : Option (List Nat) :=
    (lists_Thresholds_l0 k p5306 p5310 k ([] : List Nat) (0 : Int) : Option (List Nat)).bind fun y7522 =>
    (order_Distinct k y7522).bind fun r8398 =>
    some r8398

theorem lists_Thresholds_ok {w0 : World} {M : MSet} (hM : ∀ k, M k → k < w0.heap.size) (k : Nat) (p5306 : List Tree) (p5310 : Int) {A5307 : Option Addr} {c5308 : Nat} (hs5309 : p5306.length ≤ c5308 ∧ Sl RTree M w0 A5307 p5306) (r : List Nat) (h : lists_Thresholds k p5306 p5310 = some r) :
    Calls Tryz.prog 183 #[.slice A5307 p5306.length c5308, .int .i64 p5310] w0 (Gives w0 fun v w' => ∃ (Ao : Option Addr), ∃ (no co : Nat), v = .slice Ao no co ∧ (Row RF 54 (.slice Ao no co) r).ok w0.heap.size (Mx M [Row RF 54 (.slice Ao no co) r]) w') := by
  have hS := Sta.init hM
  have hS := hS.arg hs5309
  unfold lists_Thresholds at h
  refine calls_enter (n := 0) Tryz.func183 rfl [(0, .slice A5307 p5306.length c5308), (1, .int .i64 p5310)] rfl rfl ⟨rfl, rfl, trivial⟩ ?_
  refine WC.seq ?_
  refine WC.reg ?_
  refine WL.val (R_assign rfl) rfl rfl ?_
  refine WL.nil ?_
  refine WQ.thenC ?_
  refine WC.seq ?_
  refine WC.reg ?_
  refine WL.val (R_assign rfl) rfl rfl ?_
  refine WL.nil ?_
  refine WQ.thenC ?_
  obtain ⟨o7523, h7524, h7525⟩ := bindS h
  refine WC.seqM (fun env w => ∃ (y7522 : List Nat), ∃ (A7519 : Option Addr), ∃ (n7520 : Nat), ∃ (c7521 : Nat), y7522 = o7523 ∧ env = [(5, .slice A7519 n7520 c7521)] ∧ Sta w0 M [Row RF 54 (.slice A7519 n7520 c7521) y7522] [] w) ?_ ?_
  · have h := h7524
    refine WC.seq ?_
    refine WC.reg ?_
    refine WL.val (R_move rfl) rfl rfl ?_
    refine WL.val (R_lenS u24 rfl) rfl rfl ?_
    refine WL.val (R_move rfl) rfl rfl ?_
    refine WL.nil ?_
    refine WQ.thenC ?_
    refine WC.block ?_
    have hS := hS.nilRow RF 54
    have hS := hS.pick [0] [0] rfl
    refine WC.loopJ (fun m env w => ∃ (y7799 : List Nat), ∃ (y7800 : Int), ∃ (A7796 : Option Addr), ∃ (n7797 : Nat), ∃ (c7798 : Nat), env = [(1, .int .i64 p5310), (5, .slice A7796 n7797 c7798), (10, .slice A5307 p5306.length c5308), (11, .int .i64 (p5306.length : Int)), (12, .int .i64 y7800)] ∧ Sta w0 M [Row RF 54 (.slice A7796 n7797 c7798) y7799] [FSl RTree A5307 c5308 p5306] w ∧ lists_Thresholds_l0 k p5306 p5310 m y7799 y7800 = some o7523) k ⟨([] : List Nat), (0 : Int), none, 0, 0, rfl, hS, h⟩ ⟨rfl, rfl, rfl, rfl, rfl, trivial⟩ (fun env w hI => ?_) (fun m env w hI => ?_)
    · obtain ⟨y7799, y7800, A7796, n7797, c7798, rfl, hS, h⟩ := hI
      rw [lists_Thresholds_l0] at h
      cases h
    · obtain ⟨y7799, y7800, A7796, n7797, c7798, rfl, hS, h⟩ := hI
      rw [lists_Thresholds_l0] at h
      obtain rfl := Row.len (hS.res 0 rfl)
      refine WC.seq ?_
      refine WC.reg ?_
      refine WL.val (R_cmp rfl rfl rfl) rfl rfl ?_
      refine WL.nil ?_
      refine WQ.thenC ?_
      refine WC.seq ?_
      refine WC.cond rfl (fun hb8071 => ?_) (fun hb8071 => ?_)
      · have h := ifT hb8071 h
        refine WC.skip ?_
        refine WQ.thenC ?_
        obtain ⟨o8207, h8208, h8209⟩ := bindS h
        refine WC.seqM (fun env w => ∃ (y8206 : List Nat), ∃ (A8203 : Option Addr), ∃ (n8204 : Nat), ∃ (c8205 : Nat), y8206 = o8207 ∧ env = [(1, .int .i64 p5310), (5, .slice A8203 n8204 c8205), (10, .slice A5307 p5306.length c5308), (11, .int .i64 (p5306.length : Int)), (12, .int .i64 y7800)] ∧ Sta w0 M [Row RF 54 (.slice A8203 n8204 c8205) y8206] [FSl RTree A5307 c5308 p5306] w) ?_ ?_
        · have h := h8208
          refine WC.block ?_
          refine WC.seq ?_
          refine WC.reg ?_
          obtain ⟨x8210, hx8211, h⟩ := bindS h
          obtain ⟨ad8212, cs8213, hA8214, hq8215, hK8216, hc8217⟩ := hS.sget 0 rfl (rdS hx8211).2.2
          obtain ⟨A8218, c8219, rfl, hs8220⟩ := hK8216
          have hS := hS.addF (FSl RNode A8218 c8219 x8210.nodes) hs8220
          refine WL.val (R_indexAddr u24 z52 rfl rfl hA8214 (rdS hx8211).1 hq8215) rfl rfl ?_
          refine WL.val (R_loadA g52 rfl rfl hc8217) rfl rfl ?_
          refine WL.alloc _ z52 rfl hS rfl ?_
          intro b8221 w hS
          refine WL.storeB 0 [.int .i64 x8210.output, .slice A8218 x8210.nodes.length c8219] g52 hS rfl rfl rfl rfl rfl rfl rfl [.int .i64 x8210.output, .slice A8218 x8210.nodes.length c8219] rfl ?_
          intro w hS
          refine WL.nil ?_
          refine WQ.thenC ?_
          refine WC.seq ?_
          refine WC.reg ?_
          refine WL.val (R_fieldB o52_1 rfl) rfl rfl ?_
          refine WL.val (R_load1 g50 rfl (hS.cell 0 rfl rfl)) rfl rfl ?_
          refine WL.val (R_lenS u50 rfl) rfl rfl ?_
          refine WL.val (R_move rfl) rfl rfl ?_
          refine WL.nil ?_
          refine WQ.thenC ?_
          refine WC.block ?_
          have hS := hS.pick [1] [1, 0] rfl
          refine WC.loopJ (fun m env w => ∃ (y8282 : List Nat), ∃ (y8283 : Int), ∃ (A8279 : Option Addr), ∃ (n8280 : Nat), ∃ (c8281 : Nat), env = [(1, .int .i64 p5310), (5, .slice A8279 n8280 c8281), (10, .slice A5307 p5306.length c5308), (11, .int .i64 (p5306.length : Int)), (12, .int .i64 y7800), (17, .slice A8218 x8210.nodes.length c8219), (18, .int .i64 (x8210.nodes.length : Int)), (19, .int .i64 y8283)] ∧ Sta w0 M [Row RF 54 (.slice A8279 n8280 c8281) y8282] [FSl RTree A5307 c5308 p5306, FSl RNode A8218 c8219 x8210.nodes] w ∧ lists_Thresholds_l1 k x8210 p5310 m y8282 y8283 = some o8207) k ⟨y7799, (0 : Int), A7796, y7799.length, c7798, rfl, hS, h⟩ ⟨rfl, rfl, rfl, rfl, rfl, rfl, rfl, rfl, trivial⟩ (fun env w hI => ?_) (fun m env w hI => ?_)
          · obtain ⟨y8282, y8283, A8279, n8280, c8281, rfl, hS, h⟩ := hI
            rw [lists_Thresholds_l1] at h
            cases h
          · obtain ⟨y8282, y8283, A8279, n8280, c8281, rfl, hS, h⟩ := hI
            rw [lists_Thresholds_l1] at h
            obtain rfl := Row.len (hS.res 0 rfl)
            refine WC.seq ?_
            refine WC.reg ?_
            refine WL.val (R_cmp rfl rfl rfl) rfl rfl ?_
            refine WL.nil ?_
            refine WQ.thenC ?_
            refine WC.seq ?_
            refine WC.cond rfl (fun hb8341 => ?_) (fun hb8341 => ?_)
            · have h := ifT hb8341 h
              refine WC.skip ?_
              refine WQ.thenC ?_
              obtain ⟨o8377, h8378, h8379⟩ := bindS h
              refine WC.seqM (fun env w => ∃ (y8363 : List Nat), ∃ (A8360 : Option Addr), ∃ (n8361 : Nat), ∃ (c8362 : Nat), y8363 = o8377 ∧ env = [(1, .int .i64 p5310), (5, .slice A8360 n8361 c8362), (10, .slice A5307 p5306.length c5308), (11, .int .i64 (p5306.length : Int)), (12, .int .i64 y7800), (17, .slice A8218 x8210.nodes.length c8219), (18, .int .i64 (x8210.nodes.length : Int)), (19, .int .i64 y8283)] ∧ Sta w0 M [Row RF 54 (.slice A8360 n8361 c8362) y8363] [FSl RTree A5307 c5308 p5306, FSl RNode A8218 c8219 x8210.nodes] w) ?_ ?_
              · have h := h8378
                refine WC.block ?_
                refine WC.seq ?_
                refine WC.reg ?_
                obtain ⟨x8380, hx8381, h⟩ := bindS h
                obtain ⟨ad8382, cs8383, hA8384, hq8385, hK8386, hc8387⟩ := hS.sget 1 rfl (rdS hx8381).2.2
                obtain ⟨A8388, c8389, rfl, hs8390⟩ := hK8386
                have hS := hS.addF (FSl (RI .i64) A8388 c8389 x8380.cats) hs8390
                refine WL.val (R_indexAddr u50 z58 rfl rfl hA8384 (rdS hx8381).1 hq8385) rfl rfl ?_
                refine WL.val (R_loadA g58 rfl rfl hc8387) rfl rfl ?_
                refine WL.alloc _ z58 rfl hS rfl ?_
                intro b8391 w hS
                refine WL.storeB 0 [.int .u8 x8380.kind, .int .i64 x8380.value, .int .i64 x8380.feature, .float .f64 x8380.threshold, .slice A8388 x8380.cats.length c8389, .int .u8 x8380.missing, .int .i64 x8380.left, .int .i64 x8380.right] g58 hS rfl rfl rfl rfl rfl rfl rfl [.int .u8 x8380.kind, .int .i64 x8380.value, .int .i64 x8380.feature, .float .f64 x8380.threshold, .slice A8388 x8380.cats.length c8389, .int .u8 x8380.missing, .int .i64 x8380.left, .int .i64 x8380.right] rfl ?_
                intro w hS
                refine WL.nil ?_
                refine WQ.thenC ?_
                refine WC.seq ?_
                refine WC.reg ?_
                refine WL.val (R_fieldB o58_0 rfl) rfl rfl ?_
                refine WL.val (R_load1 g53 rfl (hS.cell 0 rfl rfl)) rfl rfl ?_
                refine WL.val (R_cmp rfl rfl rfl) rfl rfl ?_
                refine WL.val (R_move rfl) rfl rfl ?_
                rcases boolS h with ⟨hb8392, h⟩ | ⟨hb8392, h⟩
                · refine WL.gvalb rfl rfl rfl hb8392 (R_fieldB o58_2 rfl) rfl rfl ?_
                  refine WL.gvalb rfl rfl rfl hb8392 (R_load1 g3 rfl (hS.cell 0 rfl rfl)) rfl rfl ?_
                  refine WL.gvalb rfl rfl rfl hb8392 (R_move rfl) rfl rfl ?_
                  refine WL.gvalb rfl rfl rfl hb8392 (R_cmp rfl rfl rfl) rfl rfl ?_
                  refine WL.val (R_pickTb rfl hb8392 rfl) rfl rfl ?_
                  refine WL.nil ?_
                  refine WQ.thenC ?_
                  refine WC.cond rfl (fun hb8393 => ?_) (fun hb8393 => ?_)
                  · have h := ifT hb8393 h
                    refine WC.reg ?_
                    refine WL.val (R_move rfl) rfl rfl ?_
                    refine WL.val (R_fieldB o58_3 rfl) rfl rfl ?_
                    refine WL.val (R_load1 g54 rfl (hS.cell 0 rfl rfl)) rfl rfl ?_
                    refine WL.lit [.float .f64 x8380.threshold] u65 rfl (by kernel_rfl) hS rfl ?_
                    intro b8394 w hS
                    obtain ⟨hg8395, h⟩ := grdS h
                    refine WL.append (R := RF) (zs := [x8380.threshold]) 2 u65 z54 rfl rfl rfl hS rfl rfl rfl rfl (Blk.src (hS.res 0 rfl) ⟨[_], _, rfl, rfl, rfl⟩) hg8395 rfl rfl ?_
                    intro A8396 c8397 w hS
                    refine WL.val (R_assign rfl) rfl rfl ?_
                    refine WL.nil ?_
                    refine WQ.blockN ?_
                    have hS := hS.pick [2] [1, 2] rfl
                    exact WQ.toJ ⟨(y8282 ++ [x8380.threshold]), A8396, (y8282 ++ [x8380.threshold]).length, c8397, Option.some.inj h, rfl, hS⟩ ⟨rfl, rfl, rfl, rfl, rfl, rfl, rfl, rfl, trivial⟩
                  · have h := ifF hb8393 h
                    refine WC.skip ?_
                    refine WQ.blockN ?_
                    have hS := hS.pick [1] [1, 2] rfl
                    exact WQ.toJ ⟨y8282, A8279, y8282.length, c8281, Option.some.inj h, rfl, hS⟩ ⟨rfl, rfl, rfl, rfl, rfl, rfl, rfl, rfl, trivial⟩
                · refine WL.gskip rfl rfl rfl hb8392 rfl ?_
                  refine WL.gskip rfl rfl rfl hb8392 rfl ?_
                  refine WL.gskip rfl rfl rfl hb8392 rfl ?_
                  refine WL.gskip rfl rfl rfl hb8392 rfl ?_
                  refine WL.val (R_pickFb rfl hb8392 rfl) rfl rfl ?_
                  refine WL.nil ?_
                  refine WQ.thenC ?_
                  refine WC.condF rfl ?_
                  refine WC.skip ?_
                  refine WQ.blockN ?_
                  have hS := hS.pick [1] [1, 2] rfl
                  exact WQ.toJ ⟨y8282, A8279, y8282.length, c8281, Option.some.inj h, rfl, hS⟩ ⟨rfl, rfl, rfl, rfl, rfl, rfl, rfl, rfl, trivial⟩
              · rintro _ w ⟨y8363, A8360, n8361, c8362, rfl, rfl, hS⟩
                have h := h8379
                try dsimp only at h
                obtain rfl := Row.len (hS.res 0 rfl)
                refine WC.reg ?_
                refine WL.val (R_ar rfl rfl rfl) rfl rfl ?_
                refine WL.val (R_move rfl) rfl rfl ?_
                refine WL.nil ?_
                have hS := hS.pick [0] [0, 1] rfl
                exact WQ.toJ ⟨y8363, (IntKind.i64.wrap (y8283 + (1 : Int))), A8360, y8363.length, c8362, rfl, hS, h⟩ ⟨rfl, rfl, rfl, rfl, rfl, rfl, rfl, rfl, trivial⟩
            · have h := ifF hb8341 h
              refine WC.exit ?_
              refine WQ.thenE ?_
              refine WQ.thenE ?_
              refine WQ.blockE ?_
              refine WQ.blockN ?_
              have hS := hS.pick [0] [0] rfl
              exact WQ.toJ ⟨y8282, A8279, y8282.length, c8281, Option.some.inj h, rfl, hS⟩ ⟨rfl, rfl, rfl, rfl, rfl, trivial⟩
        · rintro _ w ⟨y8206, A8203, n8204, c8205, rfl, rfl, hS⟩
          have h := h8209
          try dsimp only at h
          obtain rfl := Row.len (hS.res 0 rfl)
          refine WC.reg ?_
          refine WL.val (R_ar rfl rfl rfl) rfl rfl ?_
          refine WL.val (R_move rfl) rfl rfl ?_
          refine WL.nil ?_
          have hS := hS.pick [0] [0] rfl
          exact WQ.toJ ⟨y8206, (IntKind.i64.wrap (y7800 + (1 : Int))), A8203, y8206.length, c8205, rfl, hS, h⟩ ⟨rfl, rfl, rfl, rfl, rfl, trivial⟩
      · have h := ifF hb8071 h
        refine WC.exit ?_
        refine WQ.thenE ?_
        refine WQ.thenE ?_
        refine WQ.blockE ?_
        have hS := hS.pick [0] [] rfl
        exact WQ.toJ ⟨y7799, A7796, y7799.length, c7798, Option.some.inj h, rfl, hS⟩ ⟨rfl, trivial⟩
  · rintro _ w ⟨y7522, A7519, n7520, c7521, rfl, rfl, hS⟩
    have h := h7525
    try dsimp only at h
    obtain rfl := Row.len (hS.res 0 rfl)
    refine WC.seq ?_
    refine WC.reg ?_
    refine WL.val (R_move rfl) rfl rfl ?_
    have hS := hS.freeze 0 rfl
    obtain ⟨r8398, hr8399, h⟩ := bindS h
    have hS0 := hS
    refine WL.call e145 rfl rfl hS (order_Distinct_ok (hS).mx_lt k y7522 (hS.sl 0 rfl) _ hr8399) rfl ?_
    intro v w hB hS hP
    obtain ⟨A8400, n8401, c8402, rfl, ho8403⟩ := hP
    obtain rfl := Row.len ho8403
    have hS := hS0.ofRow hB ho8403
    refine WL.val (R_assign rfl) rfl rfl ?_
    refine WL.nil ?_
    refine WQ.thenC ?_
    refine WC.ret ?_
    have hS0 := hS
    have hS := hS.pick [0] [0] rfl
    obtain rfl := Option.some.inj h
    exact ret_1 rfl rfl ⟨_, rfl, hS.bel, ⟨A8400, r8398.length, c8402, rfl, hS.res 0 rfl⟩⟩

def cmp_isNaN_int (p9986 : Int) : Option Bool :=
    some (decide (p9986 ≠ p9986))

theorem cmp_isNaN_int_ok {w0 : World} {M : MSet} (hM : ∀ k, M k → k < w0.heap.size) (p9986 : Int) (r : Bool) (h : cmp_isNaN_int p9986 = some r) :
    Calls Tryz.prog 289 #[.int .i64 p9986] w0 (Gives w0 fun v w' => v = .bool r) := by
  have hS := Sta.init hM
  unfold cmp_isNaN_int at h
  refine calls_enter (n := 0) Tryz.func289 rfl [(0, .int .i64 p9986)] rfl rfl ⟨rfl, trivial⟩ ?_
  refine WC.seq ?_
  refine WC.reg ?_
  refine WL.val (R_assign rfl) rfl rfl ?_
  refine WL.nil ?_
  refine WQ.thenC ?_
  refine WC.seq ?_
  refine WC.reg ?_
  refine WL.val (R_move rfl) rfl rfl ?_
  refine WL.val (R_move rfl) rfl rfl ?_
  refine WL.val (R_cmp rfl rfl rfl) rfl rfl ?_
  refine WL.val (R_assign rfl) rfl rfl ?_
  refine WL.nil ?_
  refine WQ.thenC ?_
  refine WC.ret ?_
  have hS0 := hS
  obtain rfl := Option.some.inj h
  exact ret_1 rfl rfl ⟨_, rfl, hS.bel, rfl⟩

def cmp_Less_int (p9984 : Int) (p9985 : Int) : Option Bool :=
    (cmp_isNaN_int p9984).bind fun r9993 =>
    if r9993 = true then ((cmp_isNaN_int p9985).bind fun r9996 =>
    if (!r9996) = true then (some true) else (some (decide (p9984 < p9985)))) else (some (decide (p9984 < p9985)))

theorem cmp_Less_int_ok {w0 : World} {M : MSet} (hM : ∀ k, M k → k < w0.heap.size) (p9984 : Int) (p9985 : Int) (r : Bool) (h : cmp_Less_int p9984 p9985 = some r) :
    Calls Tryz.prog 274 #[.int .i64 p9984, .int .i64 p9985] w0 (Gives w0 fun v w' => v = .bool r) := by
  have hS := Sta.init hM
  unfold cmp_Less_int at h
  refine calls_enter (n := 0) Tryz.func274 rfl [(0, .int .i64 p9984), (1, .int .i64 p9985)] rfl rfl ⟨rfl, rfl, trivial⟩ ?_
  refine WC.seq ?_
  refine WC.reg ?_
  refine WL.val (R_assign rfl) rfl rfl ?_
  refine WL.nil ?_
  refine WQ.thenC ?_
  refine WC.seq ?_
  refine WC.reg ?_
  refine WL.val (R_move rfl) rfl rfl ?_
  obtain ⟨r9993, hr9994, h⟩ := bindS h
  refine WL.call e289 rfl rfl hS (cmp_isNaN_int_ok (hS).mx_lt p9984  _ hr9994) rfl ?_
  intro v w hB hS hP
  obtain ⟨rfl⟩ := hP
  refine WL.val (R_move rfl) rfl rfl ?_
  rcases boolS h with ⟨hb9995, h⟩ | ⟨hb9995, h⟩
  · refine WL.gvalb rfl rfl rfl hb9995 (R_move rfl) rfl rfl ?_
    obtain ⟨r9996, hr9997, h⟩ := bindS h
    refine WL.gcallb rfl rfl rfl hb9995 e289 rfl rfl hS (cmp_isNaN_int_ok (hS).mx_lt p9985  _ hr9997) rfl ?_
    intro v w hB hS hP
    obtain ⟨rfl⟩ := hP
    refine WL.gvalb rfl rfl rfl hb9995 (R_not rfl) rfl rfl ?_
    refine WL.val (R_pickTb rfl hb9995 rfl) rfl rfl ?_
    refine WL.val (R_move rfl) rfl rfl ?_
    rcases boolS h with ⟨hb9998, h⟩ | ⟨hb9998, h⟩
    · refine WL.gskip rfl rfl rfl hb9998 rfl ?_
      refine WL.gskip rfl rfl rfl hb9998 rfl ?_
      refine WL.gskip rfl rfl rfl hb9998 rfl ?_
      refine WL.val (R_pickTb rfl hb9998 rfl) rfl rfl ?_
      refine WL.val (R_assign rfl) rfl rfl ?_
      refine WL.nil ?_
      refine WQ.thenC ?_
      refine WC.ret ?_
      have hS0 := hS
      obtain rfl := Option.some.inj h
      exact ret_1 rfl rfl ⟨_, rfl, hS.bel, rfl⟩
    · refine WL.gvalb rfl rfl rfl hb9998 (R_move rfl) rfl rfl ?_
      refine WL.gvalb rfl rfl rfl hb9998 (R_move rfl) rfl rfl ?_
      refine WL.gvalb rfl rfl rfl hb9998 (R_cmp rfl rfl rfl) rfl rfl ?_
      refine WL.val (R_pickFb rfl hb9998 rfl) rfl rfl ?_
      refine WL.val (R_assign rfl) rfl rfl ?_
      refine WL.nil ?_
      refine WQ.thenC ?_
      refine WC.ret ?_
      have hS0 := hS
      obtain rfl := Option.some.inj h
      exact ret_1 rfl rfl ⟨_, rfl, hS.bel, rfl⟩
  · refine WL.gskip rfl rfl rfl hb9995 rfl ?_
    refine WL.gskip rfl rfl rfl hb9995 rfl ?_
    refine WL.gskip rfl rfl rfl hb9995 rfl ?_
    refine WL.val (R_pickFb rfl hb9995 rfl) rfl rfl ?_
    refine WL.val (R_move rfl) rfl rfl ?_
    refine WL.gvalb rfl rfl rfl rfl (R_move rfl) rfl rfl ?_
    refine WL.gvalb rfl rfl rfl rfl (R_move rfl) rfl rfl ?_
    refine WL.gvalb rfl rfl rfl rfl (R_cmp rfl rfl rfl) rfl rfl ?_
    refine WL.val (R_pickFb rfl rfl rfl) rfl rfl ?_
    refine WL.val (R_assign rfl) rfl rfl ?_
    refine WL.nil ?_
    refine WQ.thenC ?_
    refine WC.ret ?_
    have hS0 := hS
    obtain rfl := Option.some.inj h
    exact ret_1 rfl rfl ⟨_, rfl, hS.bel, rfl⟩

def slices_insertionSortOrdered_int_l0 (k : Nat) (p9964 : Int) (p9965 : Int) : Nat → Option Unit
  | 0 => none
  | m + 1 =>
    if decide ((IntKind.i64.wrap (p9964 + (1 : Int))) < p9965) = true then (none) else (some ())

def slices_insertionSortOrdered_int (k : Nat) (p9960 : List Int) (p9964 : Int) (p9965 : Int) : Option Unit :=
    slices_insertionSortOrdered_int_l0 k p9964 p9965 k 

theorem slices_insertionSortOrdered_int_ok {w0 : World} {M : MSet} (hM : ∀ k, M k → k < w0.heap.size) (k : Nat) (p9960 : List Int) (p9964 : Int) (p9965 : Int) {A9961 : Option Addr} {c9962 : Nat} (hs9963 : p9960.length ≤ c9962 ∧ Sl (RI .i64) M w0 A9961 p9960) (h : slices_insertionSortOrdered_int k p9960 p9964 p9965 = some ()) :
    Calls Tryz.prog 268 #[.slice A9961 p9960.length c9962, .int .i64 p9964, .int .i64 p9965] w0 (Gives w0 fun v w' => v = .tuple #[]) := by
  have hS := Sta.init hM
  have hS := hS.arg hs9963
  unfold slices_insertionSortOrdered_int at h
  refine calls_enter (n := 0) Tryz.func268 rfl [(0, .slice A9961 p9960.length c9962), (1, .int .i64 p9964), (2, .int .i64 p9965)] rfl rfl ⟨rfl, rfl, rfl, trivial⟩ ?_
  refine WC.seq ?_
  refine WC.reg ?_
  refine WL.val (R_move rfl) rfl rfl ?_
  refine WL.val (R_ar rfl rfl rfl) rfl rfl ?_
  refine WL.val (R_assign rfl) rfl rfl ?_
  refine WL.nil ?_
  refine WQ.thenC ?_
  refine WC.block ?_
  have hS := hS.pick [] [0] rfl
  refine WC.loopJ (fun m env w => env = [(0, .slice A9961 p9960.length c9962), (1, .int .i64 p9964), (2, .int .i64 p9965), (6, .int .i64 (IntKind.i64.wrap (p9964 + (1 : Int))))] ∧ Sta w0 M [] [FSl (RI .i64) A9961 c9962 p9960] w ∧ slices_insertionSortOrdered_int_l0 k p9964 p9965 m  = some ()) k ⟨rfl, hS, h⟩ ⟨rfl, rfl, rfl, rfl, trivial⟩ (fun env w hI => ?_) (fun m env w hI => ?_)
  · obtain ⟨rfl, hS, h⟩ := hI
    rw [slices_insertionSortOrdered_int_l0] at h
    cases h
  · obtain ⟨rfl, hS, h⟩ := hI
    rw [slices_insertionSortOrdered_int_l0] at h
    refine WC.seq ?_
    refine WC.seq ?_
    refine WC.reg ?_
    refine WL.val (R_move rfl) rfl rfl ?_
    refine WL.val (R_move rfl) rfl rfl ?_
    refine WL.val (R_cmp rfl rfl rfl) rfl rfl ?_
    refine WL.nil ?_
    refine WQ.thenC ?_
    refine WC.cond rfl (fun hb10029 => ?_) (fun hb10029 => ?_)
    · have h := ifT hb10029 h
      cases h
    · have h := ifF hb10029 h
      refine WC.exit ?_
      refine WQ.thenE ?_
      refine WQ.thenE ?_
      refine WQ.blockE ?_
      have hS0 := hS
      exact ret_none rfl ⟨_, rfl, hS.bel, rfl⟩ .normal (.inr rfl)

def slices_pdqsortOrdered_int_l0 (k : Nat) (p9957 : Int) (p9956 : Int) (p9952 : List Int) (p9958 : Int) : Nat → Option Unit
  | 0 => none
  | m + 1 =>
    if decide ((IntKind.i64.wrap (p9957 - p9956)) ≤ (12 : Int)) = true then ((slices_insertionSortOrdered_int k p9952 p9956 p9957).bind fun _ =>
    some ()) else (if decide (p9958 = (0 : Int)) = true then (none) else ((some () : Option Unit).bind fun _ =>
    none))

def slices_pdqsortOrdered_int (k : Nat) (p9952 : List Int) (p9956 : Int) (p9957 : Int) (p9958 : Int) : Option Unit :=
    slices_pdqsortOrdered_int_l0 k p9957 p9956 p9952 p9958 k 

theorem slices_pdqsortOrdered_int_ok {w0 : World} {M : MSet} (hM : ∀ k, M k → k < w0.heap.size) (k : Nat) (p9952 : List Int) (p9956 : Int) (p9957 : Int) (p9958 : Int) {A9953 : Option Addr} {c9954 : Nat} (hs9955 : p9952.length ≤ c9954 ∧ Sl (RI .i64) M w0 A9953 p9952) (h : slices_pdqsortOrdered_int k p9952 p9956 p9957 p9958 = some ()) :
    Calls Tryz.prog 243 #[.slice A9953 p9952.length c9954, .int .i64 p9956, .int .i64 p9957, .int .i64 p9958] w0 (Gives w0 fun v w' => v = .tuple #[]) := by
  have hS := Sta.init hM
  have hS := hS.arg hs9955
  unfold slices_pdqsortOrdered_int at h
  refine calls_enter (n := 0) Tryz.func243 rfl [(0, .slice A9953 p9952.length c9954), (1, .int .i64 p9956), (2, .int .i64 p9957), (3, .int .i64 p9958)] rfl rfl ⟨rfl, rfl, rfl, rfl, trivial⟩ ?_
  refine WC.seq ?_
  refine WC.reg ?_
  refine WL.val (R_assign rfl) rfl rfl ?_
  refine WL.nil ?_
  refine WQ.thenC ?_
  refine WC.seq ?_
  refine WC.reg ?_
  refine WL.val (R_assign rfl) rfl rfl ?_
  refine WL.nil ?_
  refine WQ.thenC ?_
  refine WC.block ?_
  have hS := hS.pick [] [0] rfl
  refine WC.loopJ (fun m env w => env = [(0, .slice A9953 p9952.length c9954), (1, .int .i64 p9956), (2, .int .i64 p9957), (3, .int .i64 p9958), (8, .bool true), (9, .bool true)] ∧ Sta w0 M [] [FSl (RI .i64) A9953 c9954 p9952] w ∧ slices_pdqsortOrdered_int_l0 k p9957 p9956 p9952 p9958 m  = some ()) k ⟨rfl, hS, h⟩ ⟨rfl, rfl, rfl, rfl, rfl, rfl, trivial⟩ (fun env w hI => ?_) (fun m env w hI => ?_)
  · obtain ⟨rfl, hS, h⟩ := hI
    rw [slices_pdqsortOrdered_int_l0] at h
    cases h
  · obtain ⟨rfl, hS, h⟩ := hI
    rw [slices_pdqsortOrdered_int_l0] at h
    refine WC.block ?_
    refine WC.seq ?_
    refine WC.reg ?_
    refine WL.val (R_move rfl) rfl rfl ?_
    refine WL.val (R_move rfl) rfl rfl ?_
    refine WL.val (R_ar rfl rfl rfl) rfl rfl ?_
    refine WL.val (R_assign rfl) rfl rfl ?_
    refine WL.nil ?_
    refine WQ.thenC ?_
    refine WC.seq ?_
    refine WC.seq ?_
    refine WC.reg ?_
    refine WL.val (R_move rfl) rfl rfl ?_
    refine WL.val (R_cmp rfl rfl rfl) rfl rfl ?_
    refine WL.nil ?_
    refine WQ.thenC ?_
    refine WC.cond rfl (fun hb10064 => ?_) (fun hb10064 => ?_)
    · have h := ifT hb10064 h
      refine WC.seq ?_
      refine WC.reg ?_
      refine WL.val (R_move rfl) rfl rfl ?_
      refine WL.val (R_move rfl) rfl rfl ?_
      refine WL.val (R_move rfl) rfl rfl ?_
      obtain ⟨_, hr10065, h⟩ := bindS h
      refine WL.call e268 rfl rfl hS (slices_insertionSortOrdered_int_ok (hS).mx_lt k p9952 p9956 p9957 (hS.sl 0 rfl) hr10065) rfl ?_
      intro v w hB hS hP
      obtain ⟨rfl⟩ := hP
      refine WL.nil ?_
      refine WQ.thenC ?_
      refine WC.ret ?_
      refine WQ.thenR ?_
      refine WQ.blockR ?_
      refine WQ.thenR ?_
      refine WQ.blockR ?_
      have hS0 := hS
      exact ret_none rfl ⟨_, rfl, hS.bel, rfl⟩ .ret (.inl rfl)
    · have h := ifF hb10064 h
      refine WC.skip ?_
      refine WQ.thenC ?_
      refine WC.seq ?_
      refine WC.seq ?_
      refine WC.reg ?_
      refine WL.val (R_move rfl) rfl rfl ?_
      refine WL.val (R_cmp rfl rfl rfl) rfl rfl ?_
      refine WL.nil ?_
      refine WQ.thenC ?_
      refine WC.cond rfl (fun hb10066 => ?_) (fun hb10066 => ?_)
      · have h := ifT hb10066 h
        cases h
      · have h := ifF hb10066 h
        refine WC.skip ?_
        refine WQ.thenC ?_
        obtain ⟨o10067, h10068, h10069⟩ := bindS h
        refine WC.seqM (fun env w => () = o10067 ∧ env = [(0, .slice A9953 p9952.length c9954), (1, .int .i64 p9956), (2, .int .i64 p9957), (3, .int .i64 p9958), (8, .bool true), (9, .bool true), (10, .int .i64 (IntKind.i64.wrap (p9957 - p9956)))] ∧ Sta w0 M [] [FSl (RI .i64) A9953 c9954 p9952] w) ?_ ?_
        · have h := h10068
          refine WC.seq ?_
          refine WC.reg ?_
          refine WL.val (R_move rfl) rfl rfl ?_
          refine WL.val (R_not rfl) rfl rfl ?_
          refine WL.nil ?_
          refine WQ.thenC ?_
          refine WC.condF rfl ?_
          refine WC.skip ?_
          have hS := hS.pick [] [0] rfl
          exact WQ.toJ ⟨Option.some.inj h, rfl, hS⟩ ⟨rfl, rfl, rfl, rfl, rfl, rfl, rfl, trivial⟩
        · rintro _ w ⟨rfl, rfl, hS⟩
          have h := h10069
          try dsimp only at h
          cases h

def slices_Sort_int_int (k : Nat) (p9946 : List Int) : Option Unit :=
    (bits_Len (IntKind.u64.wrap (p9946.length : Int))).bind fun r10071 =>
    (slices_pdqsortOrdered_int k p9946 (0 : Int) (p9946.length : Int) r10071).bind fun _ =>
    some ()

theorem slices_Sort_int_int_ok {w0 : World} {M : MSet} (hM : ∀ k, M k → k < w0.heap.size) (k : Nat) (p9946 : List Int) {A9947 : Option Addr} {c9948 : Nat} (hs9949 : p9946.length ≤ c9948 ∧ Sl (RI .i64) M w0 A9947 p9946) (h : slices_Sort_int_int k p9946 = some ()) :
    Calls Tryz.prog 221 #[.slice A9947 p9946.length c9948] w0 (Gives w0 fun v w' => v = .tuple #[]) := by
  have hS := Sta.init hM
  have hS := hS.arg hs9949
  unfold slices_Sort_int_int at h
  refine calls_enter (n := 0) Tryz.func221 rfl [(0, .slice A9947 p9946.length c9948)] rfl rfl ⟨rfl, trivial⟩ ?_
  refine WC.seq ?_
  refine WC.reg ?_
  refine WL.val (R_move rfl) rfl rfl ?_
  refine WL.val (R_lenS u55 rfl) rfl rfl ?_
  refine WL.val (R_assign rfl) rfl rfl ?_
  refine WL.nil ?_
  refine WQ.thenC ?_
  refine WC.reg ?_
  refine WL.val (R_move rfl) rfl rfl ?_
  refine WL.val (R_move rfl) rfl rfl ?_
  refine WL.val (R_move rfl) rfl rfl ?_
  refine WL.val (R_convI ⟨_, u3⟩ u287 rfl) rfl rfl ?_
  obtain ⟨r10071, hr10072, h⟩ := bindS h
  refine WL.call e225 rfl rfl hS (bits_Len_ok (hS).mx_lt (IntKind.u64.wrap (p9946.length : Int))  _ hr10072) rfl ?_
  intro v w hB hS hP
  obtain ⟨rfl⟩ := hP
  obtain ⟨_, hr10073, h⟩ := bindS h
  refine WL.call e243 rfl rfl hS (slices_pdqsortOrdered_int_ok (hS).mx_lt k p9946 (0 : Int) (p9946.length : Int) r10071 (hS.sl 0 rfl) hr10073) rfl ?_
  intro v w hB hS hP
  obtain ⟨rfl⟩ := hP
  refine WL.nil ?_
  have hS0 := hS
  exact ret_none rfl ⟨_, rfl, hS.bel, rfl⟩ .normal (.inr rfl)

def lists_Categories_l2 (k : Nat) (x11953 : Node) : Nat → (List (Int × Int)) → Int → Option (List (Int × Int))
  | 0, _, _ => none
  | m + 1, y11981, y11982 =>
    if decide (y11982 < (x11953.cats.length : Int)) = true then ((rd x11953.cats y11982).bind fun x11993 =>
    lists_Categories_l2 k x11953 m (mput y11981 x11993 (IntKind.i64.wrap ((mget (0 : Int) y11981 x11993) + (1 : Int)))) (IntKind.i64.wrap (y11982 + (1 : Int)))) else (some y11981)

def lists_Categories_l1 (k : Nat) (x11729 : Tree) (p8449 : Int) : Nat → (List (Int × Int)) → Int → Option (List (Int × Int))
  | 0, _, _ => none
  | m + 1, y11824, y11825 =>
    if decide (y11825 < (x11729.nodes.length : Int)) = true then (((rd x11729.nodes y11825).bind fun x11953 =>
    (if decide (x11953.kind = (3 : Int)) = true then (some (decide (x11953.feature = p8449))) else (some false) : Option Bool).bind fun y11966 =>
    if y11966 = true then (lists_Categories_l2 k x11953 k y11824 (0 : Int)) else (some y11824) : Option (List (Int × Int))).bind fun y11949 =>
    lists_Categories_l1 k x11729 p8449 m y11949 (IntKind.i64.wrap (y11825 + (1 : Int)))) else (some y11824)

def lists_Categories_l0 (k : Nat) (p8445 : List Tree) (p8449 : Int) : Nat → (List (Int × Int)) → Int → Option (List (Int × Int))
  | 0, _, _ => none
  | m + 1, y11177, y11178 =>
    if decide (y11178 < (p8445.length : Int)) = true then (((rd p8445 y11178).bind fun x11729 =>
    lists_Categories_l1 k x11729 p8449 k y11177 (0 : Int) : Option (List (Int × Int))).bind fun y11725 =>
    lists_Categories_l0 k p8445 p8449 m y11725 (IntKind.i64.wrap (y11178 + (1 : Int)))) else (some y11177)

def lists_Categories (k : Nat) (p8445 : List Tree) (p8449 : Int) : Option (List Int) :=
    (lists_Categories_l0 k p8445 p8449 k ([] : List (Int × Int)) (0 : Int) : Option (List (Int × Int))).bind fun y10808 =>
    (m3 y10808 (some ([] : List Int)) fun q12018 =>
    if (([] : List Int).length + 1) * 8 ≤ 140737488355328 then (some (([] : List Int) ++ [q12018.1])) else none : Option (List Int)).bind fun y12014 =>
    (slices_Sort_int_int k y12014).bind fun _ =>
    some y12014

theorem lists_Categories_ok {w0 : World} {M : MSet} (hM : ∀ k, M k → k < w0.heap.size) (k : Nat) (p8445 : List Tree) (p8449 : Int) {A8446 : Option Addr} {c8447 : Nat} (hs8448 : p8445.length ≤ c8447 ∧ Sl RTree M w0 A8446 p8445) (r : List Int) (h : lists_Categories k p8445 p8449 = some r) :
    Calls Tryz.prog 184 #[.slice A8446 p8445.length c8447, .int .i64 p8449] w0 (Gives w0 fun v w' => ∃ (A0_0 : Option Addr), ∃ (c0_0 : Nat), v = .slice A0_0 r.length c0_0 ∧ (r.length ≤ c0_0 ∧ Sl (RI .i64) M w' A0_0 r)) := by
  have hS := Sta.init hM
  have hS := hS.arg hs8448
  unfold lists_Categories at h
  refine calls_enter (n := 0) Tryz.func184 rfl [(0, .slice A8446 p8445.length c8447), (1, .int .i64 p8449)] rfl rfl ⟨rfl, rfl, trivial⟩ ?_
  refine WC.seq ?_
  refine WC.reg ?_
  refine WL.val (R_assign rfl) rfl rfl ?_
  refine WL.nil ?_
  refine WQ.thenC ?_
  refine WC.seq ?_
  refine WC.reg ?_
  refine WL.makeMap (fun a : Int => .int .i64 a) (fun a : Int => .int .i64 a) hS rfl ?_
  intro b10075 w hS
  refine WL.val (R_assign rfl) rfl rfl ?_
  refine WL.nil ?_
  refine WQ.thenC ?_
  obtain ⟨o10809, h10810, h10811⟩ := bindS h
  refine WC.seqM (fun env w => ∃ (y10808 : List (Int × Int)), y10808 = o10809 ∧ env = [(5, .map (some b10075))] ∧ Sta w0 M [MapR b10075 (fun a : Int => .int .i64 a) (fun a : Int => .int .i64 a) y10808] [] w) ?_ ?_
  · have h := h10810
    refine WC.seq ?_
    refine WC.reg ?_
    refine WL.val (R_move rfl) rfl rfl ?_
    refine WL.val (R_lenS u24 rfl) rfl rfl ?_
    refine WL.val (R_move rfl) rfl rfl ?_
    refine WL.nil ?_
    refine WQ.thenC ?_
    refine WC.block ?_
    have hS := hS.pick [0] [0] rfl
    refine WC.loopJ (fun m env w => ∃ (y11177 : List (Int × Int)), ∃ (y11178 : Int), env = [(1, .int .i64 p8449), (5, .map (some b10075)), (15, .slice A8446 p8445.length c8447), (16, .int .i64 (p8445.length : Int)), (17, .int .i64 y11178)] ∧ Sta w0 M [MapR b10075 (fun a : Int => .int .i64 a) (fun a : Int => .int .i64 a) y11177] [FSl RTree A8446 c8447 p8445] w ∧ lists_Categories_l0 k p8445 p8449 m y11177 y11178 = some o10809) k ⟨([] : List (Int × Int)), (0 : Int), rfl, hS, h⟩ ⟨rfl, rfl, rfl, rfl, rfl, trivial⟩ (fun env w hI => ?_) (fun m env w hI => ?_)
    · obtain ⟨y11177, y11178, rfl, hS, h⟩ := hI
      rw [lists_Categories_l0] at h
      cases h
    · obtain ⟨y11177, y11178, rfl, hS, h⟩ := hI
      rw [lists_Categories_l0] at h
      refine WC.seq ?_
      refine WC.reg ?_
      refine WL.val (R_cmp rfl rfl rfl) rfl rfl ?_
      refine WL.nil ?_
      refine WQ.thenC ?_
      refine WC.seq ?_
      refine WC.cond rfl (fun hb11544 => ?_) (fun hb11544 => ?_)
      · have h := ifT hb11544 h
        refine WC.skip ?_
        refine WQ.thenC ?_
        obtain ⟨o11726, h11727, h11728⟩ := bindS h
        refine WC.seqM (fun env w => ∃ (y11725 : List (Int × Int)), y11725 = o11726 ∧ env = [(1, .int .i64 p8449), (5, .map (some b10075)), (15, .slice A8446 p8445.length c8447), (16, .int .i64 (p8445.length : Int)), (17, .int .i64 y11178)] ∧ Sta w0 M [MapR b10075 (fun a : Int => .int .i64 a) (fun a : Int => .int .i64 a) y11725] [FSl RTree A8446 c8447 p8445] w) ?_ ?_
        · have h := h11727
          refine WC.block ?_
          refine WC.seq ?_
          refine WC.reg ?_
          obtain ⟨x11729, hx11730, h⟩ := bindS h
          obtain ⟨ad11731, cs11732, hA11733, hq11734, hK11735, hc11736⟩ := hS.sget 0 rfl (rdS hx11730).2.2
          obtain ⟨A11737, c11738, rfl, hs11739⟩ := hK11735
          have hS := hS.addF (FSl RNode A11737 c11738 x11729.nodes) hs11739
          refine WL.val (R_indexAddr u24 z52 rfl rfl hA11733 (rdS hx11730).1 hq11734) rfl rfl ?_
          refine WL.val (R_loadA g52 rfl rfl hc11736) rfl rfl ?_
          refine WL.alloc _ z52 rfl hS rfl ?_
          intro b11740 w hS
          refine WL.storeB 0 [.int .i64 x11729.output, .slice A11737 x11729.nodes.length c11738] g52 hS rfl rfl rfl rfl rfl rfl rfl [.int .i64 x11729.output, .slice A11737 x11729.nodes.length c11738] rfl ?_
          intro w hS
          refine WL.nil ?_
          refine WQ.thenC ?_
          refine WC.seq ?_
          refine WC.reg ?_
          refine WL.val (R_fieldB o52_1 rfl) rfl rfl ?_
          refine WL.val (R_load1 g50 rfl (hS.cell 0 rfl rfl)) rfl rfl ?_
          refine WL.val (R_lenS u50 rfl) rfl rfl ?_
          refine WL.val (R_move rfl) rfl rfl ?_
          refine WL.nil ?_
          refine WQ.thenC ?_
          refine WC.block ?_
          have hS := hS.pick [1] [1, 0] rfl
          refine WC.loopJ (fun m env w => ∃ (y11824 : List (Int × Int)), ∃ (y11825 : Int), env = [(1, .int .i64 p8449), (5, .map (some b10075)), (15, .slice A8446 p8445.length c8447), (16, .int .i64 (p8445.length : Int)), (17, .int .i64 y11178), (22, .slice A11737 x11729.nodes.length c11738), (23, .int .i64 (x11729.nodes.length : Int)), (24, .int .i64 y11825)] ∧ Sta w0 M [MapR b10075 (fun a : Int => .int .i64 a) (fun a : Int => .int .i64 a) y11824] [FSl RTree A8446 c8447 p8445, FSl RNode A11737 c11738 x11729.nodes] w ∧ lists_Categories_l1 k x11729 p8449 m y11824 y11825 = some o11726) k ⟨y11177, (0 : Int), rfl, hS, h⟩ ⟨rfl, rfl, rfl, rfl, rfl, rfl, rfl, rfl, trivial⟩ (fun env w hI => ?_) (fun m env w hI => ?_)
          · obtain ⟨y11824, y11825, rfl, hS, h⟩ := hI
            rw [lists_Categories_l1] at h
            cases h
          · obtain ⟨y11824, y11825, rfl, hS, h⟩ := hI
            rw [lists_Categories_l1] at h
            refine WC.seq ?_
            refine WC.reg ?_
            refine WL.val (R_cmp rfl rfl rfl) rfl rfl ?_
            refine WL.nil ?_
            refine WQ.thenC ?_
            refine WC.seq ?_
            refine WC.cond rfl (fun hb11909 => ?_) (fun hb11909 => ?_)
            · have h := ifT hb11909 h
              refine WC.skip ?_
              refine WQ.thenC ?_
              obtain ⟨o11950, h11951, h11952⟩ := bindS h
              refine WC.seqM (fun env w => ∃ (y11949 : List (Int × Int)), y11949 = o11950 ∧ env = [(1, .int .i64 p8449), (5, .map (some b10075)), (15, .slice A8446 p8445.length c8447), (16, .int .i64 (p8445.length : Int)), (17, .int .i64 y11178), (22, .slice A11737 x11729.nodes.length c11738), (23, .int .i64 (x11729.nodes.length : Int)), (24, .int .i64 y11825)] ∧ Sta w0 M [MapR b10075 (fun a : Int => .int .i64 a) (fun a : Int => .int .i64 a) y11949] [FSl RTree A8446 c8447 p8445, FSl RNode A11737 c11738 x11729.nodes] w) ?_ ?_
              · have h := h11951
                refine WC.block ?_
                refine WC.seq ?_
                refine WC.reg ?_
                obtain ⟨x11953, hx11954, h⟩ := bindS h
                obtain ⟨ad11955, cs11956, hA11957, hq11958, hK11959, hc11960⟩ := hS.sget 1 rfl (rdS hx11954).2.2
                obtain ⟨A11961, c11962, rfl, hs11963⟩ := hK11959
                have hS := hS.addF (FSl (RI .i64) A11961 c11962 x11953.cats) hs11963
                refine WL.val (R_indexAddr u50 z58 rfl rfl hA11957 (rdS hx11954).1 hq11958) rfl rfl ?_
                refine WL.val (R_loadA g58 rfl rfl hc11960) rfl rfl ?_
                refine WL.alloc _ z58 rfl hS rfl ?_
                intro b11964 w hS
                refine WL.storeB 0 [.int .u8 x11953.kind, .int .i64 x11953.value, .int .i64 x11953.feature, .float .f64 x11953.threshold, .slice A11961 x11953.cats.length c11962, .int .u8 x11953.missing, .int .i64 x11953.left, .int .i64 x11953.right] g58 hS rfl rfl rfl rfl rfl rfl rfl [.int .u8 x11953.kind, .int .i64 x11953.value, .int .i64 x11953.feature, .float .f64 x11953.threshold, .slice A11961 x11953.cats.length c11962, .int .u8 x11953.missing, .int .i64 x11953.left, .int .i64 x11953.right] rfl ?_
                intro w hS
                refine WL.nil ?_
                refine WQ.thenC ?_
                obtain ⟨o11967, h11968, h11969⟩ := bindS h
                refine WC.seqM (fun env w => ∃ (y11966 : Bool), y11966 = o11967 ∧ env = [(1, .int .i64 p8449), (5, .map (some b10075)), (9, .pointer (some ⟨b11964, 0, none⟩)), (15, .slice A8446 p8445.length c8447), (16, .int .i64 (p8445.length : Int)), (17, .int .i64 y11178), (22, .slice A11737 x11729.nodes.length c11738), (23, .int .i64 (x11729.nodes.length : Int)), (24, .int .i64 y11825), (36, .bool y11966)] ∧ Sta w0 M [MapR b10075 (fun a : Int => .int .i64 a) (fun a : Int => .int .i64 a) y11824, Blk b11964 [.int .u8 x11953.kind, .int .i64 x11953.value, .int .i64 x11953.feature, .float .f64 x11953.threshold, .slice A11961 x11953.cats.length c11962, .int .u8 x11953.missing, .int .i64 x11953.left, .int .i64 x11953.right] 58] [FSl RTree A8446 c8447 p8445, FSl RNode A11737 c11738 x11729.nodes, FSl (RI .i64) A11961 c11962 x11953.cats] w) ?_ ?_
                · have h := h11968
                  refine WC.reg ?_
                  refine WL.val (R_fieldB o58_0 rfl) rfl rfl ?_
                  refine WL.val (R_load1 g53 rfl (hS.cell 0 rfl rfl)) rfl rfl ?_
                  refine WL.val (R_cmp rfl rfl rfl) rfl rfl ?_
                  refine WL.val (R_move rfl) rfl rfl ?_
                  rcases boolS h with ⟨hb11970, h⟩ | ⟨hb11970, h⟩
                  · refine WL.gvalb rfl rfl rfl hb11970 (R_fieldB o58_2 rfl) rfl rfl ?_
                    refine WL.gvalb rfl rfl rfl hb11970 (R_load1 g3 rfl (hS.cell 0 rfl rfl)) rfl rfl ?_
                    refine WL.gvalb rfl rfl rfl hb11970 (R_move rfl) rfl rfl ?_
                    refine WL.gvalb rfl rfl rfl hb11970 (R_cmp rfl rfl rfl) rfl rfl ?_
                    refine WL.val (R_pickTb rfl hb11970 rfl) rfl rfl ?_
                    refine WL.nil ?_
                    have hS := hS.pick [1, 0] [1, 2, 0] rfl
                    exact WQ.toJ ⟨decide (x11953.feature = p8449), Option.some.inj h, rfl, hS⟩ ⟨rfl, rfl, rfl, rfl, rfl, rfl, rfl, rfl, rfl, rfl, trivial⟩
                  · refine WL.gskip rfl rfl rfl hb11970 rfl ?_
                    refine WL.gskip rfl rfl rfl hb11970 rfl ?_
                    refine WL.gskip rfl rfl rfl hb11970 rfl ?_
                    refine WL.gskip rfl rfl rfl hb11970 rfl ?_
                    refine WL.val (R_pickFb rfl hb11970 rfl) rfl rfl ?_
                    refine WL.nil ?_
                    have hS := hS.pick [1, 0] [1, 2, 0] rfl
                    exact WQ.toJ ⟨false, Option.some.inj h, rfl, hS⟩ ⟨rfl, rfl, rfl, rfl, rfl, rfl, rfl, rfl, rfl, rfl, trivial⟩
                · rintro _ w ⟨y11966, rfl, rfl, hS⟩
                  have h := h11969
                  try dsimp only at h
                  refine WC.cond rfl (fun hb11971 => ?_) (fun hb11971 => ?_)
                  · have h := ifT hb11971 h
                    refine WC.seq ?_
                    refine WC.reg ?_
                    refine WL.val (R_fieldB o58_4 rfl) rfl rfl ?_
                    refine WL.val (R_load1 g55 rfl (hS.cell 1 rfl rfl)) rfl rfl ?_
                    refine WL.val (R_lenS u55 rfl) rfl rfl ?_
                    refine WL.val (R_move rfl) rfl rfl ?_
                    refine WL.nil ?_
                    refine WQ.thenC ?_
                    refine WC.block ?_
                    have hS := hS.pick [0] [0, 1, 2] rfl
                    refine WC.loopJ (fun m env w => ∃ (y11981 : List (Int × Int)), ∃ (y11982 : Int), env = [(1, .int .i64 p8449), (5, .map (some b10075)), (15, .slice A8446 p8445.length c8447), (16, .int .i64 (p8445.length : Int)), (17, .int .i64 y11178), (22, .slice A11737 x11729.nodes.length c11738), (23, .int .i64 (x11729.nodes.length : Int)), (24, .int .i64 y11825), (38, .slice A11961 x11953.cats.length c11962), (39, .int .i64 (x11953.cats.length : Int)), (40, .int .i64 y11982)] ∧ Sta w0 M [MapR b10075 (fun a : Int => .int .i64 a) (fun a : Int => .int .i64 a) y11981] [FSl RTree A8446 c8447 p8445, FSl RNode A11737 c11738 x11729.nodes, FSl (RI .i64) A11961 c11962 x11953.cats] w ∧ lists_Categories_l2 k x11953 m y11981 y11982 = some o11950) k ⟨y11824, (0 : Int), rfl, hS, h⟩ ⟨rfl, rfl, rfl, rfl, rfl, rfl, rfl, rfl, rfl, rfl, rfl, trivial⟩ (fun env w hI => ?_) (fun m env w hI => ?_)
                    · obtain ⟨y11981, y11982, rfl, hS, h⟩ := hI
                      rw [lists_Categories_l2] at h
                      cases h
                    · obtain ⟨y11981, y11982, rfl, hS, h⟩ := hI
                      rw [lists_Categories_l2] at h
                      refine WC.seq ?_
                      refine WC.reg ?_
                      refine WL.val (R_cmp rfl rfl rfl) rfl rfl ?_
                      refine WL.nil ?_
                      refine WQ.thenC ?_
                      refine WC.seq ?_
                      refine WC.cond rfl (fun hb11992 => ?_) (fun hb11992 => ?_)
                      · have h := ifT hb11992 h
                        refine WC.skip ?_
                        refine WQ.thenC ?_
                        refine WC.seq ?_
                        refine WC.block ?_
                        refine WC.seq ?_
                        refine WC.reg ?_
                        obtain ⟨x11993, hx11994, h⟩ := bindS h
                        obtain ⟨ad11995, cs11996, hA11997, hq11998, hK11999, hc12000⟩ := hS.sget 2 rfl (rdS hx11994).2.2
                        obtain rfl := hK11999
                        refine WL.val (R_indexAddr u55 z3 rfl rfl hA11997 (rdS hx11994).1 hq11998) rfl rfl ?_
                        refine WL.val (R_load1 g3 rfl (hc12000 0 _ rfl)) rfl rfl ?_
                        refine WL.val (R_assign rfl) rfl rfl ?_
                        refine WL.nil ?_
                        refine WQ.thenC ?_
                        refine WC.reg ?_
                        refine WL.val (R_move rfl) rfl rfl ?_
                        refine WL.val (R_move rfl) rfl rfl ?_
                        refine WL.val (R_lookup 0 (0 : Int) u321 kt3 z3 hS rfl rfl rfl) rfl rfl ?_
                        refine WL.val (R_ar rfl rfl rfl) rfl rfl ?_
                        refine WL.mapUpdate (v := (IntKind.i64.wrap ((mget (0 : Int) y11981 x11993) + (1 : Int)))) 0 u321 kt3 hS rfl rfl rfl rfl ?_
                        intro w hS
                        refine WL.nil ?_
                        refine WQ.blockN ?_
                        refine WQ.thenC ?_
                        refine WC.reg ?_
                        refine WL.val (R_ar rfl rfl rfl) rfl rfl ?_
                        refine WL.val (R_move rfl) rfl rfl ?_
                        refine WL.nil ?_
                        have hS := hS.pick [0] [0, 1, 2] rfl
                        exact WQ.toJ ⟨(mput y11981 x11993 (IntKind.i64.wrap ((mget (0 : Int) y11981 x11993) + (1 : Int)))), (IntKind.i64.wrap (y11982 + (1 : Int))), rfl, hS, h⟩ ⟨rfl, rfl, rfl, rfl, rfl, rfl, rfl, rfl, rfl, rfl, rfl, trivial⟩
                      · have h := ifF hb11992 h
                        refine WC.exit ?_
                        refine WQ.thenE ?_
                        refine WQ.thenE ?_
                        refine WQ.blockE ?_
                        refine WQ.blockN ?_
                        have hS := hS.pick [0] [0, 1] rfl
                        exact WQ.toJ ⟨y11981, Option.some.inj h, rfl, hS⟩ ⟨rfl, rfl, rfl, rfl, rfl, rfl, rfl, rfl, trivial⟩
                  · have h := ifF hb11971 h
                    refine WC.skip ?_
                    refine WQ.blockN ?_
                    have hS := hS.pick [0] [0, 1] rfl
                    exact WQ.toJ ⟨y11824, Option.some.inj h, rfl, hS⟩ ⟨rfl, rfl, rfl, rfl, rfl, rfl, rfl, rfl, trivial⟩
              · rintro _ w ⟨y11949, rfl, rfl, hS⟩
                have h := h11952
                try dsimp only at h
                refine WC.reg ?_
                refine WL.val (R_ar rfl rfl rfl) rfl rfl ?_
                refine WL.val (R_move rfl) rfl rfl ?_
                refine WL.nil ?_
                have hS := hS.pick [0] [0, 1] rfl
                exact WQ.toJ ⟨y11949, (IntKind.i64.wrap (y11825 + (1 : Int))), rfl, hS, h⟩ ⟨rfl, rfl, rfl, rfl, rfl, rfl, rfl, rfl, trivial⟩
            · have h := ifF hb11909 h
              refine WC.exit ?_
              refine WQ.thenE ?_
              refine WQ.thenE ?_
              refine WQ.blockE ?_
              refine WQ.blockN ?_
              have hS := hS.pick [0] [0] rfl
              exact WQ.toJ ⟨y11824, Option.some.inj h, rfl, hS⟩ ⟨rfl, rfl, rfl, rfl, rfl, trivial⟩
        · rintro _ w ⟨y11725, rfl, rfl, hS⟩
          have h := h11728
          try dsimp only at h
          refine WC.reg ?_
          refine WL.val (R_ar rfl rfl rfl) rfl rfl ?_
          refine WL.val (R_move rfl) rfl rfl ?_
          refine WL.nil ?_
          have hS := hS.pick [0] [0] rfl
          exact WQ.toJ ⟨y11725, (IntKind.i64.wrap (y11178 + (1 : Int))), rfl, hS, h⟩ ⟨rfl, rfl, rfl, rfl, rfl, trivial⟩
      · have h := ifF hb11544 h
        refine WC.exit ?_
        refine WQ.thenE ?_
        refine WQ.thenE ?_
        refine WQ.blockE ?_
        have hS := hS.pick [0] [] rfl
        exact WQ.toJ ⟨y11177, Option.some.inj h, rfl, hS⟩ ⟨rfl, trivial⟩
  · rintro _ w ⟨y10808, rfl, rfl, hS⟩
    have h := h10811
    try dsimp only at h
    refine WC.seq ?_
    refine WC.reg ?_
    refine WL.val (R_assign rfl) rfl rfl ?_
    refine WL.nil ?_
    refine WQ.thenC ?_
    obtain ⟨o12015, h12016, h12017⟩ := bindS h
    refine WC.seqM (fun env w => ∃ (y12014 : List Int), ∃ (A12011 : Option Addr), ∃ (n12012 : Nat), ∃ (c12013 : Nat), y12014 = o12015 ∧ env = [(12, .slice A12011 n12012 c12013)] ∧ Sta w0 M [Row (RI .i64) 3 (.slice A12011 n12012 c12013) y12014] [] w) ?_ ?_
    · have h := h12016
      refine WC.seq ?_
      refine WC.reg ?_
      refine WL.val (R_move rfl) rfl rfl ?_
      rcases m3S h with ⟨he12019, h⟩ | ⟨q12018, he12019, h⟩
      · rw [he12019] at hS
        obtain ⟨clock12020, hS⟩ := hS.open0 0 rfl
        refine WL.range 0 u321 hS rfl rfl rfl ?_
        intro b12023 w hS
        refine WL.nil ?_
        refine WQ.thenC ?_
        refine WC.block ?_
        refine WC.loopR 64 ?_
        refine WR.step ?_
        refine WC.seq ?_
        refine WC.reg ?_
        refine WL.next0 1 0 hS rfl rfl rfl rfl ?_
        refine WL.val (R_extract rfl rfl) rfl rfl ?_
        refine WL.nil ?_
        refine WQ.thenC ?_
        refine WC.seq ?_
        refine WC.condF rfl ?_
        refine WC.exit ?_
        refine WQ.thenE ?_
        refine WQ.thenE ?_
        refine WQ.blockE ?_
        have hS := hS.nilRow (RI .i64) 3
        have hS := hS.pick [0] [] rfl
        exact WQ.toJ ⟨([] : List Int), none, 0, 0, Option.some.inj h, rfl, hS⟩ ⟨rfl, trivial⟩
      · rw [he12019] at hS
        obtain ⟨clock12020, born12021, hb12022, hS⟩ := hS.open1 0 rfl
        refine WL.range 0 u321 hS rfl rfl rfl ?_
        intro b12023 w hS
        refine WL.nil ?_
        refine WQ.thenC ?_
        refine WC.block ?_
        refine WC.loopR 64 ?_
        refine WR.step ?_
        refine WC.seq ?_
        refine WC.reg ?_
        refine WL.next1 1 0 hS rfl rfl rfl hb12022 rfl ?_
        intro w hS
        refine WL.val (R_extract rfl rfl) rfl rfl ?_
        refine WL.nil ?_
        refine WQ.thenC ?_
        refine WC.seq ?_
        refine WC.condT rfl ?_
        refine WC.skip ?_
        refine WQ.thenC ?_
        refine WC.block ?_
        refine WC.seq ?_
        refine WC.reg ?_
        refine WL.val (R_entry1 1 0 hS rfl rfl rfl) rfl rfl ?_
        refine WL.val (R_extract rfl rfl) rfl rfl ?_
        refine WL.val (R_assign rfl) rfl rfl ?_
        refine WL.nil ?_
        refine WQ.thenC ?_
        refine WC.reg ?_
        refine WL.val (R_move rfl) rfl rfl ?_
        refine WL.val (R_move rfl) rfl rfl ?_
        refine WL.lit [.int .i64 q12018.1] u55 rfl (by kernel_rfl) hS rfl ?_
        intro b12024 w hS
        have hS := hS.nilRow (RI .i64) 3
        obtain ⟨hg12025, h⟩ := grdS h
        refine WL.append (R := (RI .i64)) (zs := [q12018.1]) 0 u55 z3 rfl rfl rfl hS rfl rfl rfl rfl (Blk.src (hS.res 1 rfl) ⟨[_], _, rfl, rfl, rfl⟩) hg12025 rfl rfl ?_
        intro A12026 c12027 w hS
        refine WL.val (R_assign rfl) rfl rfl ?_
        refine WL.nil ?_
        refine WQ.blockN ?_
        refine WQ.thenW ?_
        refine WR.step ?_
        refine WC.seq ?_
        refine WC.reg ?_
        refine WL.next2 3 2 hS rfl rfl rfl hb12022 rfl ?_
        refine WL.val (R_extract rfl rfl) rfl rfl ?_
        refine WL.nil ?_
        refine WQ.thenC ?_
        refine WC.seq ?_
        refine WC.condF rfl ?_
        refine WC.exit ?_
        refine WQ.thenE ?_
        refine WQ.thenE ?_
        refine WQ.blockE ?_
        have hS := hS.pick [0] [] rfl
        exact WQ.toJ ⟨(([] : List Int) ++ [q12018.1]), A12026, (([] : List Int) ++ [q12018.1]).length, c12027, Option.some.inj h, rfl, hS⟩ ⟨rfl, trivial⟩
    · rintro _ w ⟨y12014, A12011, n12012, c12013, rfl, rfl, hS⟩
      have h := h12017
      try dsimp only at h
      obtain rfl := Row.len (hS.res 0 rfl)
      refine WC.seq ?_
      refine WC.reg ?_
      refine WL.val (R_move rfl) rfl rfl ?_
      have hS := hS.freeze 0 rfl
      obtain ⟨_, hr12028, h⟩ := bindS h
      refine WL.call e221 rfl rfl hS (slices_Sort_int_int_ok (hS).mx_lt k y12014 (hS.sl 0 rfl) hr12028) rfl ?_
      intro v w hB hS hP
      obtain ⟨rfl⟩ := hP
      refine WL.nil ?_
      refine WQ.thenC ?_
      refine WC.seq ?_
      refine WC.reg ?_
      refine WL.val (R_move rfl) rfl rfl ?_
      refine WL.val (R_assign rfl) rfl rfl ?_
      refine WL.nil ?_
      refine WQ.thenC ?_
      refine WC.ret ?_
      have hS0 := hS
      obtain rfl := Option.some.inj h
      exact ret_1 rfl rfl ⟨_, rfl, hS.bel, ⟨A12011, c12013, rfl, hS.out 0 rfl⟩⟩

def bins_Of_l0 (k : Nat) (p24 : Ensemble) : Nat → (List (List Nat)) → (List (List Int)) → Int → Option ((List (List Nat)) × (List (List Int)))
  | 0, _, _, _ => none
  | m + 1, y12319, y12323, y12324 =>
    if decide (y12324 < (p24.features.length : Int)) = true then ((((lists_Thresholds k p24.trees y12324).bind fun r12474 =>
    if (y12319.length + 1) * 24 ≤ 140737488355328 then (some (y12319 ++ [r12474])) else none : Option (List (List Nat))).bind fun y12470 =>
    (lists_Categories k p24.trees y12324).bind fun r12484 =>
    if (y12323.length + 1) * 24 ≤ 140737488355328 then (some (y12470, (y12323 ++ [r12484]))) else none : Option ((List (List Nat)) × (List (List Int)))).bind fun ⟨y12449, y12453⟩ =>
    bins_Of_l0 k p24 m y12449 y12453 (IntKind.i64.wrap (y12324 + (1 : Int)))) else (some (y12319, y12323))

def bins_Of (k : Nat) (p24 : Ensemble) : Option (Bins × Int) :=
    (rules_Valid k p24).bind fun r12040 =>
    if (!r12040) = true then (some ((⟨[], []⟩ : Bins), (5 : Int))) else ((bins_Of_l0 k p24 k ([] : List (List Nat)) ([] : List (List Int)) (0 : Int) : Option ((List (List Nat)) × (List (List Int)))).bind fun ⟨y12224, y12228⟩ =>
    some ((⟨y12224, y12228⟩ : Bins), (0 : Int)))

end TK

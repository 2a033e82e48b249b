/- Chapter 7: the laws on ways: the walks. -/
import Derived.Test.YtihjaehkdgdenaaRtC
namespace Go.Proofs.Ytihjaehkdgdenaa
open Go Go.RowKit
set_option linter.unusedVariables false

set_option linter.unusedVariables false
def M_law_Ways (g : Grid) (c : Costs) (w_ : (List Cell)) (Q : Bool → Prop) : Prop :=
  M_route_CostOf g c w_ fun y1 y2 => M_ref7_CostOf g c w_ fun y3 y4 => M_route_CheckGrid g fun y5 => M_ref7_CheckGrid g fun y6 => cnd (y5 == y6) (M_route_CheckCosts c fun y7 => M_ref7_CheckCosts c fun y8 => cnd (y7 == y8) (M_route_CheckWay g w_ fun y9 => M_ref7_CheckWay g w_ fun y10 => cnd (y9 == y10) (cnd (y2 == y4) (cnd (y1 == y3) (M_route_awake  fun y11 => Q y11) (Q false)) (Q false)) (Q false)) (Q false)) (Q false)
set_option maxHeartbeats 1000000 in
theorem R_law_Ways (g : Grid) (c : Costs) (w_ : (List Cell)) (w0 : World) (g_BlockedA : Option Addr) (g_BlockedC : Nat) (hv_g_Blocked : View w0 (old w0 none_) g_BlockedA g_BlockedC g.Blocked) (w_A : Option Addr) (w_C : Nat) (hv_w_ : View w0 (old w0 none_) w_A w_C w_) (Q : Bool → Prop) (h : M_law_Ways g c w_ Q) :
    Ret Try.prog 6 #[.agg #[.int .i64 g.W, .int .i64 g.H, .int .i64 g.Layers, .slice g_BlockedA g.Blocked.length g_BlockedC], .agg #[.int .i64 c.Step, .int .i64 c.Via, .int .i64 c.Turn, .int .i64 c.Against], .slice w_A w_.length w_C] w0 fun v w' => ∃ (r0 : Bool), v = .bool r0 ∧ Q r0 ∧ Sat w0 none_ [] w' := by
  refine fn_enter Try.func6 rfl Try.ntmps6 rfl (fs := [(0, .agg #[.int .i64 g.W, .int .i64 g.H, .int .i64 g.Layers, .slice g_BlockedA g.Blocked.length g_BlockedC]), (1, .agg #[.int .i64 c.Step, .int .i64 c.Via, .int .i64 c.Turn, .int .i64 c.Against]), (2, .slice w_A w_.length w_C)]) rfl (fun a hf => ?_)
  have hs := Sat.start w0 none_
  unfold M_law_Ways at h
  refine wp_seq ?_
  refine R.list ?_
  refine S.box hf hs rfl rfl rfl [.int .i64 g.W, .int .i64 g.H, .int .i64 g.Layers, .slice g_BlockedA g.Blocked.length g_BlockedC] rfl rfl rfl (fun g1 a w hf hs => ?_)
  refine S.box hf hs rfl rfl rfl [.int .i64 c.Step, .int .i64 c.Via, .int .i64 c.Turn, .int .i64 c.Against] rfl rfl rfl (fun g2 a w hf hs => ?_)
  refine S.val hf hs (v := .bool false) rfl rfl rfl (V.pure rfl) (fun a hf => ?_)
  refine R.nil ?_
  refine X.then_ ?_
  refine wp_seq ?_
  refine R.list ?_
  refine S.val hf hs (v := .agg #[.int .i64 g.W, .int .i64 g.H, .int .i64 g.Layers, .slice g_BlockedA g.Blocked.length g_BlockedC]) rfl rfl rfl (V.loadBox 1 rfl rfl rfl Try.isAgg24 Try.sizeOf24 rfl rfl) (fun a hf => ?_)
  refine S.val hf hs (v := .agg #[.int .i64 c.Step, .int .i64 c.Via, .int .i64 c.Turn, .int .i64 c.Against]) rfl rfl rfl (V.loadBox 0 rfl rfl rfl Try.isAgg26 Try.sizeOf26 rfl rfl) (fun a hf => ?_)
  refine S.val hf hs (v := .slice w_A w_.length w_C) rfl rfl rfl (V.pure rfl) (fun a hf => ?_)
  refine S.call hf rfl rfl rfl (call_fn (vs := [.agg #[.int .i64 g.W, .int .i64 g.H, .int .i64 g.Layers, .slice g_BlockedA g.Blocked.length g_BlockedC], .agg #[.int .i64 c.Step, .int .i64 c.Via, .int .i64 c.Turn, .int .i64 c.Against], .slice w_A w_.length w_C]) rfl rfl rfl Try.call20) (R_route_CostOf g c w_ _ g_BlockedA g_BlockedC ((Ag.args _ _ _).view hv_g_Blocked hs) w_A w_C ((Ag.args _ _ _).view hv_w_ hs) _ h) (fun v a w' hf hr => ?_)
  obtain ⟨y1, y2, rfl, h2, hs2⟩ := hr
  replace h := h2; replace hs := hs.call hs2; clear h2 hs2
  refine S.val hf hs (v := .tuple #[.int .i64 y1, .int .i64 y2]) rfl rfl rfl (V.pure rfl) (fun a hf => ?_)
  refine S.val hf hs (v := .int .i64 y1) rfl rfl rfl (V.pure rfl) (fun a hf => ?_)
  refine S.val hf hs (v := .int .i64 y2) rfl rfl rfl (V.pure rfl) (fun a hf => ?_)
  refine S.val hf hs (v := .int .i64 y1) rfl rfl rfl (V.pure rfl) (fun a hf => ?_)
  refine S.val hf hs (v := .int .i64 y2) rfl rfl rfl (V.pure rfl) (fun a hf => ?_)
  refine R.nil ?_
  refine X.then_ ?_
  refine wp_seq ?_
  refine R.list ?_
  refine S.val hf hs (v := .agg #[.int .i64 g.W, .int .i64 g.H, .int .i64 g.Layers, .slice g_BlockedA g.Blocked.length g_BlockedC]) rfl rfl rfl (V.loadBox 1 rfl rfl rfl Try.isAgg24 Try.sizeOf24 rfl rfl) (fun a hf => ?_)
  refine S.val hf hs (v := .agg #[.int .i64 c.Step, .int .i64 c.Via, .int .i64 c.Turn, .int .i64 c.Against]) rfl rfl rfl (V.loadBox 0 rfl rfl rfl Try.isAgg26 Try.sizeOf26 rfl rfl) (fun a hf => ?_)
  refine S.val hf hs (v := .slice w_A w_.length w_C) rfl rfl rfl (V.pure rfl) (fun a hf => ?_)
  refine S.call hf rfl rfl rfl (call_fn (vs := [.agg #[.int .i64 g.W, .int .i64 g.H, .int .i64 g.Layers, .slice g_BlockedA g.Blocked.length g_BlockedC], .agg #[.int .i64 c.Step, .int .i64 c.Via, .int .i64 c.Turn, .int .i64 c.Against], .slice w_A w_.length w_C]) rfl rfl rfl Try.call21) (R_ref7_CostOf g c w_ _ g_BlockedA g_BlockedC ((Ag.args _ _ _).view hv_g_Blocked hs) w_A w_C ((Ag.args _ _ _).view hv_w_ hs) _ h) (fun v a w' hf hr => ?_)
  obtain ⟨y3, y4, rfl, h2, hs2⟩ := hr
  replace h := h2; replace hs := hs.call hs2; clear h2 hs2
  refine S.val hf hs (v := .tuple #[.int .i64 y3, .int .i64 y4]) rfl rfl rfl (V.pure rfl) (fun a hf => ?_)
  refine S.val hf hs (v := .int .i64 y3) rfl rfl rfl (V.pure rfl) (fun a hf => ?_)
  refine S.val hf hs (v := .int .i64 y4) rfl rfl rfl (V.pure rfl) (fun a hf => ?_)
  refine S.val hf hs (v := .int .i64 y3) rfl rfl rfl (V.pure rfl) (fun a hf => ?_)
  refine S.val hf hs (v := .int .i64 y4) rfl rfl rfl (V.pure rfl) (fun a hf => ?_)
  refine R.nil ?_
  refine X.then_ ?_
  refine wp_seq ?_
  refine H.start (S := Sat w0 none_ [hbox g2 26 [.int .i64 c.Step, .int .i64 c.Via, .int .i64 c.Turn, .int .i64 c.Against], hbox g1 24 [.int .i64 g.W, .int .i64 g.H, .int .i64 g.Layers, .slice g_BlockedA g.Blocked.length g_BlockedC]]) mo ?_
  replace hs := hs.drew
  refine H.val hf hs (v := .agg #[.int .i64 g.W, .int .i64 g.H, .int .i64 g.Layers, .slice g_BlockedA g.Blocked.length g_BlockedC]) (i := 0) rfl rfl rfl rfl (by kernel_rfl) (by kernel_rfl) (by kernel_rfl) (V.loadBox 1 rfl rfl rfl Try.isAgg24 Try.sizeOf24 rfl rfl) (fun a hf => ?_)
  refine H.val hf hs (v := .agg #[.int .i64 g.W, .int .i64 g.H, .int .i64 g.Layers, .slice g_BlockedA g.Blocked.length g_BlockedC]) (i := 2) rfl rfl rfl rfl (by kernel_rfl) (by kernel_rfl) (by kernel_rfl) (V.loadBox 1 rfl rfl rfl Try.isAgg24 Try.sizeOf24 rfl rfl) (fun a hf => ?_)
  refine H.one (i := 1) rfl (by kernel_rfl) ?_
  refine S.call hf rfl rfl rfl (call_fn (vs := [.agg #[.int .i64 g.W, .int .i64 g.H, .int .i64 g.Layers, .slice g_BlockedA g.Blocked.length g_BlockedC]]) rfl rfl rfl Try.call22) (R_route_CheckGrid g _ g_BlockedA g_BlockedC ((Ag.args _ _ _).view hv_g_Blocked hs) _ h) (fun v a w' hf hr => ?_)
  obtain ⟨y5, rfl, h2, hs2⟩ := hr
  replace h := h2; replace hs := hs.call hs2; clear h2 hs2
  refine R.nil ?_
  refine X.then_ ?_
  refine ⟨hs, ?_⟩
  refine H.one (i := 3) rfl (by kernel_rfl) ?_
  refine S.call hf rfl rfl rfl (call_fn (vs := [.agg #[.int .i64 g.W, .int .i64 g.H, .int .i64 g.Layers, .slice g_BlockedA g.Blocked.length g_BlockedC]]) rfl rfl rfl Try.call23) (R_ref7_CheckGrid g _ g_BlockedA g_BlockedC ((Ag.args _ _ _).view hv_g_Blocked hs) _ h) (fun v a w' hf hr => ?_)
  obtain ⟨y6, rfl, h2, hs2⟩ := hr
  replace h := h2; replace hs := hs.call hs2; clear h2 hs2
  refine R.nil ?_
  refine X.then_ ?_
  refine ⟨hs, ?_⟩
  refine H.val hf hs (v := .bool (y5 == y6)) (i := 4) rfl rfl rfl rfl (by kernel_rfl) (by kernel_rfl) (by kernel_rfl) (V.pure rfl) (fun a hf => ?_)
  refine H.split hf hs (b := y5 == y6) (i := 5) rfl rfl rfl rfl (by kernel_rfl) (by kernel_rfl) (by kernel_rfl) (V.pure rfl) (fun hc a hf => ?_) (fun hc a hf => ?_)
  · replace h := h.1 hc
    refine H.val hf hs (v := .agg #[.int .i64 c.Step, .int .i64 c.Via, .int .i64 c.Turn, .int .i64 c.Against]) (i := 6) rfl rfl rfl rfl (by kernel_rfl) (by kernel_rfl) (by kernel_rfl) (V.loadBox 0 rfl rfl rfl Try.isAgg26 Try.sizeOf26 rfl rfl) (fun a hf => ?_)
    refine H.val hf hs (v := .agg #[.int .i64 c.Step, .int .i64 c.Via, .int .i64 c.Turn, .int .i64 c.Against]) (i := 8) rfl rfl rfl rfl (by kernel_rfl) (by kernel_rfl) (by kernel_rfl) (V.loadBox 0 rfl rfl rfl Try.isAgg26 Try.sizeOf26 rfl rfl) (fun a hf => ?_)
    refine H.one (i := 7) rfl (by kernel_rfl) ?_
    refine S.call hf rfl rfl rfl (call_fn (vs := [.agg #[.int .i64 c.Step, .int .i64 c.Via, .int .i64 c.Turn, .int .i64 c.Against]]) rfl rfl rfl Try.call24) (R_route_CheckCosts c _  _ h) (fun v a w' hf hr => ?_)
    obtain ⟨y7, rfl, h2, hs2⟩ := hr
    replace h := h2; replace hs := hs.call hs2; clear h2 hs2
    refine R.nil ?_
    refine X.then_ ?_
    refine ⟨hs, ?_⟩
    refine H.one (i := 9) rfl (by kernel_rfl) ?_
    refine S.call hf rfl rfl rfl (call_fn (vs := [.agg #[.int .i64 c.Step, .int .i64 c.Via, .int .i64 c.Turn, .int .i64 c.Against]]) rfl rfl rfl Try.call25) (R_ref7_CheckCosts c _  _ h) (fun v a w' hf hr => ?_)
    obtain ⟨y8, rfl, h2, hs2⟩ := hr
    replace h := h2; replace hs := hs.call hs2; clear h2 hs2
    refine R.nil ?_
    refine X.then_ ?_
    refine ⟨hs, ?_⟩
    refine H.val hf hs (v := .bool (y7 == y8)) (i := 10) rfl rfl rfl rfl (by kernel_rfl) (by kernel_rfl) (by kernel_rfl) (V.pure rfl) (fun a hf => ?_)
    refine H.val hf hs (v := .bool (y7 == y8)) (i := 11) rfl rfl rfl rfl (by kernel_rfl) (by kernel_rfl) (by kernel_rfl) (V.pure rfl) (fun a hf => ?_)
    refine H.split hf hs (b := y7 == y8) (i := 12) rfl rfl rfl rfl (by kernel_rfl) (by kernel_rfl) (by kernel_rfl) (V.pure rfl) (fun hc a hf => ?_) (fun hc a hf => ?_)
    · replace h := h.1 hc
      refine H.val hf hs (v := .agg #[.int .i64 g.W, .int .i64 g.H, .int .i64 g.Layers, .slice g_BlockedA g.Blocked.length g_BlockedC]) (i := 13) rfl rfl rfl rfl (by kernel_rfl) (by kernel_rfl) (by kernel_rfl) (V.loadBox 1 rfl rfl rfl Try.isAgg24 Try.sizeOf24 rfl rfl) (fun a hf => ?_)
      refine H.val hf hs (v := .slice w_A w_.length w_C) (i := 14) rfl rfl rfl rfl (by kernel_rfl) (by kernel_rfl) (by kernel_rfl) (V.pure rfl) (fun a hf => ?_)
      refine H.val hf hs (v := .agg #[.int .i64 g.W, .int .i64 g.H, .int .i64 g.Layers, .slice g_BlockedA g.Blocked.length g_BlockedC]) (i := 16) rfl rfl rfl rfl (by kernel_rfl) (by kernel_rfl) (by kernel_rfl) (V.loadBox 1 rfl rfl rfl Try.isAgg24 Try.sizeOf24 rfl rfl) (fun a hf => ?_)
      refine H.val hf hs (v := .slice w_A w_.length w_C) (i := 17) rfl rfl rfl rfl (by kernel_rfl) (by kernel_rfl) (by kernel_rfl) (V.pure rfl) (fun a hf => ?_)
      refine H.one (i := 15) rfl (by kernel_rfl) ?_
      refine S.call hf rfl rfl rfl (call_fn (vs := [.agg #[.int .i64 g.W, .int .i64 g.H, .int .i64 g.Layers, .slice g_BlockedA g.Blocked.length g_BlockedC], .slice w_A w_.length w_C]) rfl rfl rfl Try.call26) (R_route_CheckWay g w_ _ g_BlockedA g_BlockedC ((Ag.args _ _ _).view hv_g_Blocked hs) w_A w_C ((Ag.args _ _ _).view hv_w_ hs) _ h) (fun v a w' hf hr => ?_)
      obtain ⟨y9, rfl, h2, hs2⟩ := hr
      replace h := h2; replace hs := hs.call hs2; clear h2 hs2
      refine R.nil ?_
      refine X.then_ ?_
      refine ⟨hs, ?_⟩
      refine H.one (i := 18) rfl (by kernel_rfl) ?_
      refine S.call hf rfl rfl rfl (call_fn (vs := [.agg #[.int .i64 g.W, .int .i64 g.H, .int .i64 g.Layers, .slice g_BlockedA g.Blocked.length g_BlockedC], .slice w_A w_.length w_C]) rfl rfl rfl Try.call27) (R_ref7_CheckWay g w_ _ g_BlockedA g_BlockedC ((Ag.args _ _ _).view hv_g_Blocked hs) w_A w_C ((Ag.args _ _ _).view hv_w_ hs) _ h) (fun v a w' hf hr => ?_)
      obtain ⟨y10, rfl, h2, hs2⟩ := hr
      replace h := h2; replace hs := hs.call hs2; clear h2 hs2
      refine R.nil ?_
      refine X.then_ ?_
      refine ⟨hs, ?_⟩
      refine H.val hf hs (v := .bool (y9 == y10)) (i := 19) rfl rfl rfl rfl (by kernel_rfl) (by kernel_rfl) (by kernel_rfl) (V.pure rfl) (fun a hf => ?_)
      refine H.val hf hs (v := .bool (y9 == y10)) (i := 20) rfl rfl rfl rfl (by kernel_rfl) (by kernel_rfl) (by kernel_rfl) (V.pure rfl) (fun a hf => ?_)
      refine H.split hf hs (b := y9 == y10) (i := 21) rfl rfl rfl rfl (by kernel_rfl) (by kernel_rfl) (by kernel_rfl) (V.pure rfl) (fun hc a hf => ?_) (fun hc a hf => ?_)
      · replace h := h.1 hc
        refine H.val hf hs (v := .int .i64 y2) (i := 22) rfl rfl rfl rfl (by kernel_rfl) (by kernel_rfl) (by kernel_rfl) (V.pure rfl) (fun a hf => ?_)
        refine H.val hf hs (v := .int .i64 y4) (i := 23) rfl rfl rfl rfl (by kernel_rfl) (by kernel_rfl) (by kernel_rfl) (V.pure rfl) (fun a hf => ?_)
        refine H.val hf hs (v := .bool (y2 == y4)) (i := 24) rfl rfl rfl rfl (by kernel_rfl) (by kernel_rfl) (by kernel_rfl) (V.pure rfl) (fun a hf => ?_)
        refine H.val hf hs (v := .bool (y2 == y4)) (i := 25) rfl rfl rfl rfl (by kernel_rfl) (by kernel_rfl) (by kernel_rfl) (V.pure rfl) (fun a hf => ?_)
        refine H.split hf hs (b := y2 == y4) (i := 26) rfl rfl rfl rfl (by kernel_rfl) (by kernel_rfl) (by kernel_rfl) (V.pure rfl) (fun hc a hf => ?_) (fun hc a hf => ?_)
        · replace h := h.1 hc
          refine H.val hf hs (v := .int .i64 y1) (i := 27) rfl rfl rfl rfl (by kernel_rfl) (by kernel_rfl) (by kernel_rfl) (V.pure rfl) (fun a hf => ?_)
          refine H.val hf hs (v := .int .i64 y3) (i := 28) rfl rfl rfl rfl (by kernel_rfl) (by kernel_rfl) (by kernel_rfl) (V.pure rfl) (fun a hf => ?_)
          refine H.val hf hs (v := .bool (y1 == y3)) (i := 29) rfl rfl rfl rfl (by kernel_rfl) (by kernel_rfl) (by kernel_rfl) (V.pure rfl) (fun a hf => ?_)
          refine H.val hf hs (v := .bool (y1 == y3)) (i := 30) rfl rfl rfl rfl (by kernel_rfl) (by kernel_rfl) (by kernel_rfl) (V.pure rfl) (fun a hf => ?_)
          refine H.split hf hs (b := y1 == y3) (i := 31) rfl rfl rfl rfl (by kernel_rfl) (by kernel_rfl) (by kernel_rfl) (V.pure rfl) (fun hc a hf => ?_) (fun hc a hf => ?_)
          · replace h := h.1 hc
            refine H.one (i := 32) rfl (by kernel_rfl) ?_
            refine S.call hf rfl rfl rfl (call_fn (vs := []) rfl rfl rfl Try.call13) (R_route_awake  _  _ h) (fun v a w' hf hr => ?_)
            obtain ⟨y11, rfl, h2, hs2⟩ := hr
            replace h := h2; replace hs := hs.call hs2; clear h2 hs2
            refine R.nil ?_
            refine X.then_ ?_
            refine ⟨hs, ?_⟩
            refine H.val hf hs (v := .bool y11) (i := 33) rfl rfl rfl rfl (by kernel_rfl) (by kernel_rfl) (by kernel_rfl) (V.pure rfl) (fun a hf => ?_)
            refine H.val hf hs (v := .bool y11) (i := 34) rfl rfl rfl rfl (by kernel_rfl) (by kernel_rfl) (by kernel_rfl) (V.pure rfl) (fun a hf => ?_)
            refine H.done (by kernel_rfl) ?_
            refine X.then_ ?_
            refine wp_ret ?_
            exact L.ret hf (run_results1 Try.results6 (ResIs.tmp hf rfl)) ⟨y11, rfl, h, hs.nil⟩
          · replace h := h.2 hc
            refine H.one (i := 32) rfl (by kernel_rfl) ?_
            refine S.skip hf rfl rfl rfl (fun a hf => ?_)
            refine R.nil ?_
            refine X.then_ ?_
            refine ⟨hs, ?_⟩
            refine H.val hf hs (v := .bool false) (i := 33) rfl rfl rfl rfl (by kernel_rfl) (by kernel_rfl) (by kernel_rfl) (V.pure rfl) (fun a hf => ?_)
            refine H.val hf hs (v := .bool false) (i := 34) rfl rfl rfl rfl (by kernel_rfl) (by kernel_rfl) (by kernel_rfl) (V.pure rfl) (fun a hf => ?_)
            refine H.done (by kernel_rfl) ?_
            refine X.then_ ?_
            refine wp_ret ?_
            exact L.ret hf (run_results1 Try.results6 (ResIs.tmp hf rfl)) ⟨false, rfl, h, hs.nil⟩
        · replace h := h.2 hc
          refine H.skip hf hs (i := 27) rfl rfl rfl rfl (by kernel_rfl) (by kernel_rfl) (by kernel_rfl) (fun a hf => ?_)
          refine H.skip hf hs (i := 28) rfl rfl rfl rfl (by kernel_rfl) (by kernel_rfl) (by kernel_rfl) (fun a hf => ?_)
          refine H.skip hf hs (i := 29) rfl rfl rfl rfl (by kernel_rfl) (by kernel_rfl) (by kernel_rfl) (fun a hf => ?_)
          refine H.val hf hs (v := .bool false) (i := 30) rfl rfl rfl rfl (by kernel_rfl) (by kernel_rfl) (by kernel_rfl) (V.pure rfl) (fun a hf => ?_)
          refine H.val hf hs (v := .bool false) (i := 31) rfl rfl rfl rfl (by kernel_rfl) (by kernel_rfl) (by kernel_rfl) (V.pure rfl) (fun a hf => ?_)
          refine H.one (i := 32) rfl (by kernel_rfl) ?_
          refine S.skip hf rfl rfl rfl (fun a hf => ?_)
          refine R.nil ?_
          refine X.then_ ?_
          refine ⟨hs, ?_⟩
          refine H.val hf hs (v := .bool false) (i := 33) rfl rfl rfl rfl (by kernel_rfl) (by kernel_rfl) (by kernel_rfl) (V.pure rfl) (fun a hf => ?_)
          refine H.val hf hs (v := .bool false) (i := 34) rfl rfl rfl rfl (by kernel_rfl) (by kernel_rfl) (by kernel_rfl) (V.pure rfl) (fun a hf => ?_)
          refine H.done (by kernel_rfl) ?_
          refine X.then_ ?_
          refine wp_ret ?_
          exact L.ret hf (run_results1 Try.results6 (ResIs.tmp hf rfl)) ⟨false, rfl, h, hs.nil⟩
      · replace h := h.2 hc
        refine H.skip hf hs (i := 22) rfl rfl rfl rfl (by kernel_rfl) (by kernel_rfl) (by kernel_rfl) (fun a hf => ?_)
        refine H.skip hf hs (i := 23) rfl rfl rfl rfl (by kernel_rfl) (by kernel_rfl) (by kernel_rfl) (fun a hf => ?_)
        refine H.skip hf hs (i := 24) rfl rfl rfl rfl (by kernel_rfl) (by kernel_rfl) (by kernel_rfl) (fun a hf => ?_)
        refine H.val hf hs (v := .bool false) (i := 25) rfl rfl rfl rfl (by kernel_rfl) (by kernel_rfl) (by kernel_rfl) (V.pure rfl) (fun a hf => ?_)
        refine H.val hf hs (v := .bool false) (i := 26) rfl rfl rfl rfl (by kernel_rfl) (by kernel_rfl) (by kernel_rfl) (V.pure rfl) (fun a hf => ?_)
        refine H.skip hf hs (i := 27) rfl rfl rfl rfl (by kernel_rfl) (by kernel_rfl) (by kernel_rfl) (fun a hf => ?_)
        refine H.skip hf hs (i := 28) rfl rfl rfl rfl (by kernel_rfl) (by kernel_rfl) (by kernel_rfl) (fun a hf => ?_)
        refine H.skip hf hs (i := 29) rfl rfl rfl rfl (by kernel_rfl) (by kernel_rfl) (by kernel_rfl) (fun a hf => ?_)
        refine H.val hf hs (v := .bool false) (i := 30) rfl rfl rfl rfl (by kernel_rfl) (by kernel_rfl) (by kernel_rfl) (V.pure rfl) (fun a hf => ?_)
        refine H.val hf hs (v := .bool false) (i := 31) rfl rfl rfl rfl (by kernel_rfl) (by kernel_rfl) (by kernel_rfl) (V.pure rfl) (fun a hf => ?_)
        refine H.one (i := 32) rfl (by kernel_rfl) ?_
        refine S.skip hf rfl rfl rfl (fun a hf => ?_)
        refine R.nil ?_
        refine X.then_ ?_
        refine ⟨hs, ?_⟩
        refine H.val hf hs (v := .bool false) (i := 33) rfl rfl rfl rfl (by kernel_rfl) (by kernel_rfl) (by kernel_rfl) (V.pure rfl) (fun a hf => ?_)
        refine H.val hf hs (v := .bool false) (i := 34) rfl rfl rfl rfl (by kernel_rfl) (by kernel_rfl) (by kernel_rfl) (V.pure rfl) (fun a hf => ?_)
        refine H.done (by kernel_rfl) ?_
        refine X.then_ ?_
        refine wp_ret ?_
        exact L.ret hf (run_results1 Try.results6 (ResIs.tmp hf rfl)) ⟨false, rfl, h, hs.nil⟩
    · replace h := h.2 hc
      refine H.skip hf hs (i := 13) rfl rfl rfl rfl (by kernel_rfl) (by kernel_rfl) (by kernel_rfl) (fun a hf => ?_)
      refine H.skip hf hs (i := 14) rfl rfl rfl rfl (by kernel_rfl) (by kernel_rfl) (by kernel_rfl) (fun a hf => ?_)
      refine H.skip hf hs (i := 16) rfl rfl rfl rfl (by kernel_rfl) (by kernel_rfl) (by kernel_rfl) (fun a hf => ?_)
      refine H.skip hf hs (i := 17) rfl rfl rfl rfl (by kernel_rfl) (by kernel_rfl) (by kernel_rfl) (fun a hf => ?_)
      refine H.one (i := 15) rfl (by kernel_rfl) ?_
      refine S.skip hf rfl rfl rfl (fun a hf => ?_)
      refine R.nil ?_
      refine X.then_ ?_
      refine ⟨hs, ?_⟩
      refine H.one (i := 18) rfl (by kernel_rfl) ?_
      refine S.skip hf rfl rfl rfl (fun a hf => ?_)
      refine R.nil ?_
      refine X.then_ ?_
      refine ⟨hs, ?_⟩
      refine H.skip hf hs (i := 19) rfl rfl rfl rfl (by kernel_rfl) (by kernel_rfl) (by kernel_rfl) (fun a hf => ?_)
      refine H.val hf hs (v := .bool false) (i := 20) rfl rfl rfl rfl (by kernel_rfl) (by kernel_rfl) (by kernel_rfl) (V.pure rfl) (fun a hf => ?_)
      refine H.val hf hs (v := .bool false) (i := 21) rfl rfl rfl rfl (by kernel_rfl) (by kernel_rfl) (by kernel_rfl) (V.pure rfl) (fun a hf => ?_)
      refine H.skip hf hs (i := 22) rfl rfl rfl rfl (by kernel_rfl) (by kernel_rfl) (by kernel_rfl) (fun a hf => ?_)
      refine H.skip hf hs (i := 23) rfl rfl rfl rfl (by kernel_rfl) (by kernel_rfl) (by kernel_rfl) (fun a hf => ?_)
      refine H.skip hf hs (i := 24) rfl rfl rfl rfl (by kernel_rfl) (by kernel_rfl) (by kernel_rfl) (fun a hf => ?_)
      refine H.val hf hs (v := .bool false) (i := 25) rfl rfl rfl rfl (by kernel_rfl) (by kernel_rfl) (by kernel_rfl) (V.pure rfl) (fun a hf => ?_)
      refine H.val hf hs (v := .bool false) (i := 26) rfl rfl rfl rfl (by kernel_rfl) (by kernel_rfl) (by kernel_rfl) (V.pure rfl) (fun a hf => ?_)
      refine H.skip hf hs (i := 27) rfl rfl rfl rfl (by kernel_rfl) (by kernel_rfl) (by kernel_rfl) (fun a hf => ?_)
      refine H.skip hf hs (i := 28) rfl rfl rfl rfl (by kernel_rfl) (by kernel_rfl) (by kernel_rfl) (fun a hf => ?_)
      refine H.skip hf hs (i := 29) rfl rfl rfl rfl (by kernel_rfl) (by kernel_rfl) (by kernel_rfl) (fun a hf => ?_)
      refine H.val hf hs (v := .bool false) (i := 30) rfl rfl rfl rfl (by kernel_rfl) (by kernel_rfl) (by kernel_rfl) (V.pure rfl) (fun a hf => ?_)
      refine H.val hf hs (v := .bool false) (i := 31) rfl rfl rfl rfl (by kernel_rfl) (by kernel_rfl) (by kernel_rfl) (V.pure rfl) (fun a hf => ?_)
      refine H.one (i := 32) rfl (by kernel_rfl) ?_
      refine S.skip hf rfl rfl rfl (fun a hf => ?_)
      refine R.nil ?_
      refine X.then_ ?_
      refine ⟨hs, ?_⟩
      refine H.val hf hs (v := .bool false) (i := 33) rfl rfl rfl rfl (by kernel_rfl) (by kernel_rfl) (by kernel_rfl) (V.pure rfl) (fun a hf => ?_)
      refine H.val hf hs (v := .bool false) (i := 34) rfl rfl rfl rfl (by kernel_rfl) (by kernel_rfl) (by kernel_rfl) (V.pure rfl) (fun a hf => ?_)
      refine H.done (by kernel_rfl) ?_
      refine X.then_ ?_
      refine wp_ret ?_
      exact L.ret hf (run_results1 Try.results6 (ResIs.tmp hf rfl)) ⟨false, rfl, h, hs.nil⟩
  · replace h := h.2 hc
    refine H.skip hf hs (i := 6) rfl rfl rfl rfl (by kernel_rfl) (by kernel_rfl) (by kernel_rfl) (fun a hf => ?_)
    refine H.skip hf hs (i := 8) rfl rfl rfl rfl (by kernel_rfl) (by kernel_rfl) (by kernel_rfl) (fun a hf => ?_)
    refine H.one (i := 7) rfl (by kernel_rfl) ?_
    refine S.skip hf rfl rfl rfl (fun a hf => ?_)
    refine R.nil ?_
    refine X.then_ ?_
    refine ⟨hs, ?_⟩
    refine H.one (i := 9) rfl (by kernel_rfl) ?_
    refine S.skip hf rfl rfl rfl (fun a hf => ?_)
    refine R.nil ?_
    refine X.then_ ?_
    refine ⟨hs, ?_⟩
    refine H.skip hf hs (i := 10) rfl rfl rfl rfl (by kernel_rfl) (by kernel_rfl) (by kernel_rfl) (fun a hf => ?_)
    refine H.val hf hs (v := .bool false) (i := 11) rfl rfl rfl rfl (by kernel_rfl) (by kernel_rfl) (by kernel_rfl) (V.pure rfl) (fun a hf => ?_)
    refine H.val hf hs (v := .bool false) (i := 12) rfl rfl rfl rfl (by kernel_rfl) (by kernel_rfl) (by kernel_rfl) (V.pure rfl) (fun a hf => ?_)
    refine H.skip hf hs (i := 13) rfl rfl rfl rfl (by kernel_rfl) (by kernel_rfl) (by kernel_rfl) (fun a hf => ?_)
    refine H.skip hf hs (i := 14) rfl rfl rfl rfl (by kernel_rfl) (by kernel_rfl) (by kernel_rfl) (fun a hf => ?_)
    refine H.skip hf hs (i := 16) rfl rfl rfl rfl (by kernel_rfl) (by kernel_rfl) (by kernel_rfl) (fun a hf => ?_)
    refine H.skip hf hs (i := 17) rfl rfl rfl rfl (by kernel_rfl) (by kernel_rfl) (by kernel_rfl) (fun a hf => ?_)
    refine H.one (i := 15) rfl (by kernel_rfl) ?_
    refine S.skip hf rfl rfl rfl (fun a hf => ?_)
    refine R.nil ?_
    refine X.then_ ?_
    refine ⟨hs, ?_⟩
    refine H.one (i := 18) rfl (by kernel_rfl) ?_
    refine S.skip hf rfl rfl rfl (fun a hf => ?_)
    refine R.nil ?_
    refine X.then_ ?_
    refine ⟨hs, ?_⟩
    refine H.skip hf hs (i := 19) rfl rfl rfl rfl (by kernel_rfl) (by kernel_rfl) (by kernel_rfl) (fun a hf => ?_)
    refine H.val hf hs (v := .bool false) (i := 20) rfl rfl rfl rfl (by kernel_rfl) (by kernel_rfl) (by kernel_rfl) (V.pure rfl) (fun a hf => ?_)
    refine H.val hf hs (v := .bool false) (i := 21) rfl rfl rfl rfl (by kernel_rfl) (by kernel_rfl) (by kernel_rfl) (V.pure rfl) (fun a hf => ?_)
    refine H.skip hf hs (i := 22) rfl rfl rfl rfl (by kernel_rfl) (by kernel_rfl) (by kernel_rfl) (fun a hf => ?_)
    refine H.skip hf hs (i := 23) rfl rfl rfl rfl (by kernel_rfl) (by kernel_rfl) (by kernel_rfl) (fun a hf => ?_)
    refine H.skip hf hs (i := 24) rfl rfl rfl rfl (by kernel_rfl) (by kernel_rfl) (by kernel_rfl) (fun a hf => ?_)
    refine H.val hf hs (v := .bool false) (i := 25) rfl rfl rfl rfl (by kernel_rfl) (by kernel_rfl) (by kernel_rfl) (V.pure rfl) (fun a hf => ?_)
    refine H.val hf hs (v := .bool false) (i := 26) rfl rfl rfl rfl (by kernel_rfl) (by kernel_rfl) (by kernel_rfl) (V.pure rfl) (fun a hf => ?_)
    refine H.skip hf hs (i := 27) rfl rfl rfl rfl (by kernel_rfl) (by kernel_rfl) (by kernel_rfl) (fun a hf => ?_)
    refine H.skip hf hs (i := 28) rfl rfl rfl rfl (by kernel_rfl) (by kernel_rfl) (by kernel_rfl) (fun a hf => ?_)
    refine H.skip hf hs (i := 29) rfl rfl rfl rfl (by kernel_rfl) (by kernel_rfl) (by kernel_rfl) (fun a hf => ?_)
    refine H.val hf hs (v := .bool false) (i := 30) rfl rfl rfl rfl (by kernel_rfl) (by kernel_rfl) (by kernel_rfl) (V.pure rfl) (fun a hf => ?_)
    refine H.val hf hs (v := .bool false) (i := 31) rfl rfl rfl rfl (by kernel_rfl) (by kernel_rfl) (by kernel_rfl) (V.pure rfl) (fun a hf => ?_)
    refine H.one (i := 32) rfl (by kernel_rfl) ?_
    refine S.skip hf rfl rfl rfl (fun a hf => ?_)
    refine R.nil ?_
    refine X.then_ ?_
    refine ⟨hs, ?_⟩
    refine H.val hf hs (v := .bool false) (i := 33) rfl rfl rfl rfl (by kernel_rfl) (by kernel_rfl) (by kernel_rfl) (V.pure rfl) (fun a hf => ?_)
    refine H.val hf hs (v := .bool false) (i := 34) rfl rfl rfl rfl (by kernel_rfl) (by kernel_rfl) (by kernel_rfl) (V.pure rfl) (fun a hf => ?_)
    refine H.done (by kernel_rfl) ?_
    refine X.then_ ?_
    refine wp_ret ?_
    exact L.ret hf (run_results1 Try.results6 (ResIs.tmp hf rfl)) ⟨false, rfl, h, hs.nil⟩

set_option linter.unusedVariables false
def M_law_BothWays (g : Grid) (c : Costs) (from_ : Cell) (to : Cell) (Q : Bool → Prop) : Prop :=
  M_route_Least g c from_ to fun y1 y2 y3 => M_route_Least g c to from_ fun y4 y5 y6 => cnd (y3 == y6) (cnd (y1 == y4) (cnd (y2 == y5) (M_route_awake  fun y7 => Q y7) (Q false)) (Q false)) (Q false)
set_option maxHeartbeats 1000000 in
theorem R_law_BothWays (g : Grid) (c : Costs) (from_ : Cell) (to : Cell) (w0 : World) (g_BlockedA : Option Addr) (g_BlockedC : Nat) (hv_g_Blocked : View w0 (old w0 none_) g_BlockedA g_BlockedC g.Blocked) (Q : Bool → Prop) (h : M_law_BothWays g c from_ to Q) :
    Ret Try.prog 3 #[.agg #[.int .i64 g.W, .int .i64 g.H, .int .i64 g.Layers, .slice g_BlockedA g.Blocked.length g_BlockedC], .agg #[.int .i64 c.Step, .int .i64 c.Via, .int .i64 c.Turn, .int .i64 c.Against], .agg #[.int .i64 from_.X, .int .i64 from_.Y, .int .i64 from_.Layer], .agg #[.int .i64 to.X, .int .i64 to.Y, .int .i64 to.Layer]] w0 fun v w' => ∃ (r0 : Bool), v = .bool r0 ∧ Q r0 ∧ Sat w0 none_ [] w' := by
  refine fn_enter Try.func3 rfl Try.ntmps3 rfl (fs := [(0, .agg #[.int .i64 g.W, .int .i64 g.H, .int .i64 g.Layers, .slice g_BlockedA g.Blocked.length g_BlockedC]), (1, .agg #[.int .i64 c.Step, .int .i64 c.Via, .int .i64 c.Turn, .int .i64 c.Against]), (2, .agg #[.int .i64 from_.X, .int .i64 from_.Y, .int .i64 from_.Layer]), (3, .agg #[.int .i64 to.X, .int .i64 to.Y, .int .i64 to.Layer])]) rfl (fun a hf => ?_)
  have hs := Sat.start w0 none_
  unfold M_law_BothWays at h
  refine wp_seq ?_
  refine R.list ?_
  refine S.box hf hs rfl rfl rfl [.int .i64 g.W, .int .i64 g.H, .int .i64 g.Layers, .slice g_BlockedA g.Blocked.length g_BlockedC] rfl rfl rfl (fun g1 a w hf hs => ?_)
  refine S.box hf hs rfl rfl rfl [.int .i64 c.Step, .int .i64 c.Via, .int .i64 c.Turn, .int .i64 c.Against] rfl rfl rfl (fun g2 a w hf hs => ?_)
  refine S.box hf hs rfl rfl rfl [.int .i64 from_.X, .int .i64 from_.Y, .int .i64 from_.Layer] rfl rfl rfl (fun g3 a w hf hs => ?_)
  refine S.box hf hs rfl rfl rfl [.int .i64 to.X, .int .i64 to.Y, .int .i64 to.Layer] rfl rfl rfl (fun g4 a w hf hs => ?_)
  refine S.val hf hs (v := .bool false) rfl rfl rfl (V.pure rfl) (fun a hf => ?_)
  refine R.nil ?_
  refine X.then_ ?_
  refine wp_seq ?_
  refine R.list ?_
  refine S.val hf hs (v := .agg #[.int .i64 g.W, .int .i64 g.H, .int .i64 g.Layers, .slice g_BlockedA g.Blocked.length g_BlockedC]) rfl rfl rfl (V.loadBox 3 rfl rfl rfl Try.isAgg24 Try.sizeOf24 rfl rfl) (fun a hf => ?_)
  refine S.val hf hs (v := .agg #[.int .i64 c.Step, .int .i64 c.Via, .int .i64 c.Turn, .int .i64 c.Against]) rfl rfl rfl (V.loadBox 2 rfl rfl rfl Try.isAgg26 Try.sizeOf26 rfl rfl) (fun a hf => ?_)
  refine S.val hf hs (v := .agg #[.int .i64 from_.X, .int .i64 from_.Y, .int .i64 from_.Layer]) rfl rfl rfl (V.loadBox 1 rfl rfl rfl Try.isAgg28 Try.sizeOf28 rfl rfl) (fun a hf => ?_)
  refine S.val hf hs (v := .agg #[.int .i64 to.X, .int .i64 to.Y, .int .i64 to.Layer]) rfl rfl rfl (V.loadBox 0 rfl rfl rfl Try.isAgg28 Try.sizeOf28 rfl rfl) (fun a hf => ?_)
  refine S.call hf rfl rfl rfl (call_fn (vs := [.agg #[.int .i64 g.W, .int .i64 g.H, .int .i64 g.Layers, .slice g_BlockedA g.Blocked.length g_BlockedC], .agg #[.int .i64 c.Step, .int .i64 c.Via, .int .i64 c.Turn, .int .i64 c.Against], .agg #[.int .i64 from_.X, .int .i64 from_.Y, .int .i64 from_.Layer], .agg #[.int .i64 to.X, .int .i64 to.Y, .int .i64 to.Layer]]) rfl rfl rfl Try.call12) (R_route_Least g c from_ to _ g_BlockedA g_BlockedC ((Ag.args _ _ _).view hv_g_Blocked hs) _ h) (fun v a w' hf hr => ?_)
  obtain ⟨y1, y2, y3, rfl, h2, hs2⟩ := hr
  replace h := h2; replace hs := hs.call hs2; clear h2 hs2
  refine S.val hf hs (v := .tuple #[.int .i64 y1, .bool y2, .int .i64 y3]) rfl rfl rfl (V.pure rfl) (fun a hf => ?_)
  refine S.val hf hs (v := .int .i64 y1) rfl rfl rfl (V.pure rfl) (fun a hf => ?_)
  refine S.val hf hs (v := .bool y2) rfl rfl rfl (V.pure rfl) (fun a hf => ?_)
  refine S.val hf hs (v := .int .i64 y3) rfl rfl rfl (V.pure rfl) (fun a hf => ?_)
  refine S.val hf hs (v := .int .i64 y1) rfl rfl rfl (V.pure rfl) (fun a hf => ?_)
  refine S.val hf hs (v := .bool y2) rfl rfl rfl (V.pure rfl) (fun a hf => ?_)
  refine S.val hf hs (v := .int .i64 y3) rfl rfl rfl (V.pure rfl) (fun a hf => ?_)
  refine R.nil ?_
  refine X.then_ ?_
  refine wp_seq ?_
  refine R.list ?_
  refine S.val hf hs (v := .agg #[.int .i64 g.W, .int .i64 g.H, .int .i64 g.Layers, .slice g_BlockedA g.Blocked.length g_BlockedC]) rfl rfl rfl (V.loadBox 3 rfl rfl rfl Try.isAgg24 Try.sizeOf24 rfl rfl) (fun a hf => ?_)
  refine S.val hf hs (v := .agg #[.int .i64 c.Step, .int .i64 c.Via, .int .i64 c.Turn, .int .i64 c.Against]) rfl rfl rfl (V.loadBox 2 rfl rfl rfl Try.isAgg26 Try.sizeOf26 rfl rfl) (fun a hf => ?_)
  refine S.val hf hs (v := .agg #[.int .i64 to.X, .int .i64 to.Y, .int .i64 to.Layer]) rfl rfl rfl (V.loadBox 0 rfl rfl rfl Try.isAgg28 Try.sizeOf28 rfl rfl) (fun a hf => ?_)
  refine S.val hf hs (v := .agg #[.int .i64 from_.X, .int .i64 from_.Y, .int .i64 from_.Layer]) rfl rfl rfl (V.loadBox 1 rfl rfl rfl Try.isAgg28 Try.sizeOf28 rfl rfl) (fun a hf => ?_)
  refine S.call hf rfl rfl rfl (call_fn (vs := [.agg #[.int .i64 g.W, .int .i64 g.H, .int .i64 g.Layers, .slice g_BlockedA g.Blocked.length g_BlockedC], .agg #[.int .i64 c.Step, .int .i64 c.Via, .int .i64 c.Turn, .int .i64 c.Against], .agg #[.int .i64 to.X, .int .i64 to.Y, .int .i64 to.Layer], .agg #[.int .i64 from_.X, .int .i64 from_.Y, .int .i64 from_.Layer]]) rfl rfl rfl Try.call12) (R_route_Least g c to from_ _ g_BlockedA g_BlockedC ((Ag.args _ _ _).view hv_g_Blocked hs) _ h) (fun v a w' hf hr => ?_)
  obtain ⟨y4, y5, y6, rfl, h2, hs2⟩ := hr
  replace h := h2; replace hs := hs.call hs2; clear h2 hs2
  refine S.val hf hs (v := .tuple #[.int .i64 y4, .bool y5, .int .i64 y6]) rfl rfl rfl (V.pure rfl) (fun a hf => ?_)
  refine S.val hf hs (v := .int .i64 y4) rfl rfl rfl (V.pure rfl) (fun a hf => ?_)
  refine S.val hf hs (v := .bool y5) rfl rfl rfl (V.pure rfl) (fun a hf => ?_)
  refine S.val hf hs (v := .int .i64 y6) rfl rfl rfl (V.pure rfl) (fun a hf => ?_)
  refine S.val hf hs (v := .int .i64 y4) rfl rfl rfl (V.pure rfl) (fun a hf => ?_)
  refine S.val hf hs (v := .bool y5) rfl rfl rfl (V.pure rfl) (fun a hf => ?_)
  refine S.val hf hs (v := .int .i64 y6) rfl rfl rfl (V.pure rfl) (fun a hf => ?_)
  refine R.nil ?_
  refine X.then_ ?_
  refine wp_seq ?_
  refine R.list ?_
  refine S.val hf hs (v := .int .i64 y3) rfl rfl rfl (V.pure rfl) (fun a hf => ?_)
  refine S.val hf hs (v := .int .i64 y6) rfl rfl rfl (V.pure rfl) (fun a hf => ?_)
  refine S.val hf hs (v := .bool (y3 == y6)) rfl rfl rfl (V.pure rfl) (fun a hf => ?_)
  refine S.split hf hs (b := y3 == y6) rfl rfl rfl (V.pure rfl) (fun hc a hf => ?_) (fun hc a hf => ?_)
  · replace h := h.1 hc
    refine S.val hf hs (v := .int .i64 y1) rfl rfl rfl (V.pure rfl) (fun a hf => ?_)
    refine S.val hf hs (v := .int .i64 y4) rfl rfl rfl (V.pure rfl) (fun a hf => ?_)
    refine S.val hf hs (v := .bool (y1 == y4)) rfl rfl rfl (V.pure rfl) (fun a hf => ?_)
    refine S.val hf hs (v := .bool (y1 == y4)) rfl rfl rfl (V.pure rfl) (fun a hf => ?_)
    refine S.split hf hs (b := y1 == y4) rfl rfl rfl (V.pure rfl) (fun hc a hf => ?_) (fun hc a hf => ?_)
    · replace h := h.1 hc
      refine S.val hf hs (v := .bool y2) rfl rfl rfl (V.pure rfl) (fun a hf => ?_)
      refine S.val hf hs (v := .bool y5) rfl rfl rfl (V.pure rfl) (fun a hf => ?_)
      refine S.val hf hs (v := .bool (y2 == y5)) rfl rfl rfl (V.boolEq rfl rfl rfl Try.underlying4 rfl) (fun a hf => ?_)
      refine S.val hf hs (v := .bool (y2 == y5)) rfl rfl rfl (V.pure rfl) (fun a hf => ?_)
      refine S.split hf hs (b := y2 == y5) rfl rfl rfl (V.pure rfl) (fun hc a hf => ?_) (fun hc a hf => ?_)
      · replace h := h.1 hc
        refine S.call hf rfl rfl rfl (call_fn (vs := []) rfl rfl rfl Try.call13) (R_route_awake  _  _ h) (fun v a w' hf hr => ?_)
        obtain ⟨y7, rfl, h2, hs2⟩ := hr
        replace h := h2; replace hs := hs.call hs2; clear h2 hs2
        refine S.val hf hs (v := .bool y7) rfl rfl rfl (V.pure rfl) (fun a hf => ?_)
        refine S.val hf hs (v := .bool y7) rfl rfl rfl (V.pure rfl) (fun a hf => ?_)
        refine R.nil ?_
        refine X.then_ ?_
        refine wp_ret ?_
        exact L.ret hf (run_results1 Try.results3 (ResIs.tmp hf rfl)) ⟨y7, rfl, h, hs.nil⟩
      · replace h := h.2 hc
        refine S.skip hf rfl rfl rfl (fun a hf => ?_)
        refine S.val hf hs (v := .bool false) rfl rfl rfl (V.pure rfl) (fun a hf => ?_)
        refine S.val hf hs (v := .bool false) rfl rfl rfl (V.pure rfl) (fun a hf => ?_)
        refine R.nil ?_
        refine X.then_ ?_
        refine wp_ret ?_
        exact L.ret hf (run_results1 Try.results3 (ResIs.tmp hf rfl)) ⟨false, rfl, h, hs.nil⟩
    · replace h := h.2 hc
      refine S.skip hf rfl rfl rfl (fun a hf => ?_)
      refine S.skip hf rfl rfl rfl (fun a hf => ?_)
      refine S.skip hf rfl rfl rfl (fun a hf => ?_)
      refine S.val hf hs (v := .bool false) rfl rfl rfl (V.pure rfl) (fun a hf => ?_)
      refine S.val hf hs (v := .bool false) rfl rfl rfl (V.pure rfl) (fun a hf => ?_)
      refine S.skip hf rfl rfl rfl (fun a hf => ?_)
      refine S.val hf hs (v := .bool false) rfl rfl rfl (V.pure rfl) (fun a hf => ?_)
      refine S.val hf hs (v := .bool false) rfl rfl rfl (V.pure rfl) (fun a hf => ?_)
      refine R.nil ?_
      refine X.then_ ?_
      refine wp_ret ?_
      exact L.ret hf (run_results1 Try.results3 (ResIs.tmp hf rfl)) ⟨false, rfl, h, hs.nil⟩
  · replace h := h.2 hc
    refine S.skip hf rfl rfl rfl (fun a hf => ?_)
    refine S.skip hf rfl rfl rfl (fun a hf => ?_)
    refine S.skip hf rfl rfl rfl (fun a hf => ?_)
    refine S.val hf hs (v := .bool false) rfl rfl rfl (V.pure rfl) (fun a hf => ?_)
    refine S.val hf hs (v := .bool false) rfl rfl rfl (V.pure rfl) (fun a hf => ?_)
    refine S.skip hf rfl rfl rfl (fun a hf => ?_)
    refine S.skip hf rfl rfl rfl (fun a hf => ?_)
    refine S.skip hf rfl rfl rfl (fun a hf => ?_)
    refine S.val hf hs (v := .bool false) rfl rfl rfl (V.pure rfl) (fun a hf => ?_)
    refine S.val hf hs (v := .bool false) rfl rfl rfl (V.pure rfl) (fun a hf => ?_)
    refine S.skip hf rfl rfl rfl (fun a hf => ?_)
    refine S.val hf hs (v := .bool false) rfl rfl rfl (V.pure rfl) (fun a hf => ?_)
    refine S.val hf hs (v := .bool false) rfl rfl rfl (V.pure rfl) (fun a hf => ?_)
    refine R.nil ?_
    refine X.then_ ?_
    refine wp_ret ?_
    exact L.ret hf (run_results1 Try.results3 (ResIs.tmp hf rfl)) ⟨false, rfl, h, hs.nil⟩


end Go.Proofs.Ytihjaehkdgdenaa

/- Chapter 7: grids, costs, ways: the walks. -/
import Derived.Test.YtihjaehkdgdenaaTypes
import Derived.Test.YtihjaehkdgdenaaIface
namespace Go.Proofs.Ytihjaehkdgdenaa
open Go Go.RowKit
set_option linter.unusedVariables false

def within (n lo hi : Int) : Bool := decide (lo ≤ n) && decide (n ≤ hi)
set_option linter.unusedVariables false
def M_route_within (n : Int) (lo : Int) (hi : Int) (Q : Bool → Prop) : Prop :=
  cnd (decide (n ≥ lo)) (Q (decide (n ≤ hi))) (Q false)
set_option maxHeartbeats 1000000 in
theorem R_route_within (n : Int) (lo : Int) (hi : Int) (w0 : World)  (Q : Bool → Prop) (h : M_route_within n lo hi Q) :
    Ret Try.prog 40 #[.int .i64 n, .int .i64 lo, .int .i64 hi] w0 fun v w' => ∃ (r0 : Bool), v = .bool r0 ∧ Q r0 ∧ Sat w0 none_ [] w' := by
  refine fn_enter Try.func40 rfl Try.ntmps40 rfl (fs := [(0, .int .i64 n), (1, .int .i64 lo), (2, .int .i64 hi)]) rfl (fun a hf => ?_)
  have hs := Sat.start w0 none_
  unfold M_route_within at h
  refine wp_seq ?_
  refine R.list ?_
  refine S.val hf hs (v := .bool false) rfl rfl rfl (V.pure rfl) (fun a hf => ?_)
  refine R.nil ?_
  refine X.then_ ?_
  refine wp_seq ?_
  refine R.list ?_
  refine S.val hf hs (v := .int .i64 n) rfl rfl rfl (V.pure rfl) (fun a hf => ?_)
  refine S.val hf hs (v := .int .i64 lo) rfl rfl rfl (V.pure rfl) (fun a hf => ?_)
  refine S.val hf hs (v := .bool (decide (n ≥ lo))) rfl rfl rfl (V.pure rfl) (fun a hf => ?_)
  refine S.split hf hs (b := decide (n ≥ lo)) rfl rfl rfl (V.pure rfl) (fun hc a hf => ?_) (fun hc a hf => ?_)
  · replace h := h.1 hc
    refine S.val hf hs (v := .int .i64 n) rfl rfl rfl (V.pure rfl) (fun a hf => ?_)
    refine S.val hf hs (v := .int .i64 hi) rfl rfl rfl (V.pure rfl) (fun a hf => ?_)
    refine S.val hf hs (v := .bool (decide (n ≤ hi))) rfl rfl rfl (V.pure rfl) (fun a hf => ?_)
    refine S.val hf hs (v := .bool (decide (n ≤ hi))) rfl rfl rfl (V.pure rfl) (fun a hf => ?_)
    refine S.val hf hs (v := .bool (decide (n ≤ hi))) rfl rfl rfl (V.pure rfl) (fun a hf => ?_)
    refine R.nil ?_
    refine X.then_ ?_
    refine wp_ret ?_
    exact L.ret hf (run_results1 Try.results40 (ResIs.tmp hf rfl)) ⟨(decide (n ≤ hi)), rfl, h, hs.nil⟩
  · replace h := h.2 hc
    refine S.skip hf rfl rfl rfl (fun a hf => ?_)
    refine S.skip hf rfl rfl rfl (fun a hf => ?_)
    refine S.skip hf rfl rfl rfl (fun a hf => ?_)
    refine S.val hf hs (v := .bool false) rfl rfl rfl (V.pure rfl) (fun a hf => ?_)
    refine S.val hf hs (v := .bool false) rfl rfl rfl (V.pure rfl) (fun a hf => ?_)
    refine R.nil ?_
    refine X.then_ ?_
    refine wp_ret ?_
    exact L.ret hf (run_results1 Try.results40 (ResIs.tmp hf rfl)) ⟨false, rfl, h, hs.nil⟩

theorem E_route_within (n lo hi : Int) : M_route_within n lo hi (· = within n lo hi) := by
  unfold M_route_within within; constructor <;> intro h <;> simp_all <;> omega
theorem C_route_within (n : Int) (lo : Int) (hi : Int) (w0 : World)  : Ret Try.prog 40 #[.int .i64 n, .int .i64 lo, .int .i64 hi] w0 fun v w' => v = .bool (within n lo hi) ∧ Sat w0 none_ [] w' :=
  (R_route_within n lo hi w0  (· = (within n lo hi)) (E_route_within n lo hi)).mono fun v w' ⟨r0, hv, hr, hs⟩ => ⟨by subst hr; exact hv, hs⟩

set_option linter.unusedVariables false
def M_ref7_within (n : Int) (lo : Int) (hi : Int) (Q : Bool → Prop) : Prop :=
  cnd (decide (lo ≤ n)) (Q (decide (n ≤ hi))) (Q false)
set_option maxHeartbeats 1000000 in
theorem R_ref7_within (n : Int) (lo : Int) (hi : Int) (w0 : World)  (Q : Bool → Prop) (h : M_ref7_within n lo hi Q) :
    Ret Try.prog 43 #[.int .i64 n, .int .i64 lo, .int .i64 hi] w0 fun v w' => ∃ (r0 : Bool), v = .bool r0 ∧ Q r0 ∧ Sat w0 none_ [] w' := by
  refine fn_enter Try.func43 rfl Try.ntmps43 rfl (fs := [(0, .int .i64 n), (1, .int .i64 lo), (2, .int .i64 hi)]) rfl (fun a hf => ?_)
  have hs := Sat.start w0 none_
  unfold M_ref7_within at h
  refine wp_seq ?_
  refine R.list ?_
  refine S.val hf hs (v := .bool false) rfl rfl rfl (V.pure rfl) (fun a hf => ?_)
  refine R.nil ?_
  refine X.then_ ?_
  refine wp_seq ?_
  refine R.list ?_
  refine S.val hf hs (v := .int .i64 lo) rfl rfl rfl (V.pure rfl) (fun a hf => ?_)
  refine S.val hf hs (v := .int .i64 n) rfl rfl rfl (V.pure rfl) (fun a hf => ?_)
  refine S.val hf hs (v := .bool (decide (lo ≤ n))) rfl rfl rfl (V.pure rfl) (fun a hf => ?_)
  refine S.split hf hs (b := decide (lo ≤ n)) rfl rfl rfl (V.pure rfl) (fun hc a hf => ?_) (fun hc a hf => ?_)
  · replace h := h.1 hc
    refine S.val hf hs (v := .int .i64 n) rfl rfl rfl (V.pure rfl) (fun a hf => ?_)
    refine S.val hf hs (v := .int .i64 hi) rfl rfl rfl (V.pure rfl) (fun a hf => ?_)
    refine S.val hf hs (v := .bool (decide (n ≤ hi))) rfl rfl rfl (V.pure rfl) (fun a hf => ?_)
    refine S.val hf hs (v := .bool (decide (n ≤ hi))) rfl rfl rfl (V.pure rfl) (fun a hf => ?_)
    refine S.val hf hs (v := .bool (decide (n ≤ hi))) rfl rfl rfl (V.pure rfl) (fun a hf => ?_)
    refine R.nil ?_
    refine X.then_ ?_
    refine wp_ret ?_
    exact L.ret hf (run_results1 Try.results43 (ResIs.tmp hf rfl)) ⟨(decide (n ≤ hi)), rfl, h, hs.nil⟩
  · replace h := h.2 hc
    refine S.skip hf rfl rfl rfl (fun a hf => ?_)
    refine S.skip hf rfl rfl rfl (fun a hf => ?_)
    refine S.skip hf rfl rfl rfl (fun a hf => ?_)
    refine S.val hf hs (v := .bool false) rfl rfl rfl (V.pure rfl) (fun a hf => ?_)
    refine S.val hf hs (v := .bool false) rfl rfl rfl (V.pure rfl) (fun a hf => ?_)
    refine R.nil ?_
    refine X.then_ ?_
    refine wp_ret ?_
    exact L.ret hf (run_results1 Try.results43 (ResIs.tmp hf rfl)) ⟨false, rfl, h, hs.nil⟩

theorem E_ref7_within (n lo hi : Int) : M_ref7_within n lo hi (· = within n lo hi) := by
  unfold M_ref7_within within; constructor <;> intro h <;> simp_all <;> omega
theorem C_ref7_within (n : Int) (lo : Int) (hi : Int) (w0 : World)  : Ret Try.prog 43 #[.int .i64 n, .int .i64 lo, .int .i64 hi] w0 fun v w' => v = .bool (within n lo hi) ∧ Sat w0 none_ [] w' :=
  (R_ref7_within n lo hi w0  (· = (within n lo hi)) (E_ref7_within n lo hi)).mono fun v w' ⟨r0, hv, hr, hs⟩ => ⟨by subst hr; exact hv, hs⟩

set_option linter.unusedVariables false
def M_route_isCell (g : Grid) (c : Cell) (Q : Bool → Prop) : Prop :=
  cnd (within c.X 0 (w64 (g.W - 1))) (cnd (within c.Y 0 (w64 (g.H - 1))) (Q (within c.Layer 0 (w64 (g.Layers - 1)))) (Q false)) (Q false)
set_option maxHeartbeats 1000000 in
theorem R_route_isCell (g : Grid) (c : Cell) (w0 : World) (g_BlockedA : Option Addr) (g_BlockedC : Nat) (hv_g_Blocked : View w0 (old w0 none_) g_BlockedA g_BlockedC g.Blocked) (Q : Bool → Prop) (h : M_route_isCell g c Q) :
    Ret Try.prog 54 #[.agg #[.int .i64 g.W, .int .i64 g.H, .int .i64 g.Layers, .slice g_BlockedA g.Blocked.length g_BlockedC], .agg #[.int .i64 c.X, .int .i64 c.Y, .int .i64 c.Layer]] w0 fun v w' => ∃ (r0 : Bool), v = .bool r0 ∧ Q r0 ∧ Sat w0 none_ [] w' := by
  refine fn_enter Try.func54 rfl Try.ntmps54 rfl (fs := [(0, .agg #[.int .i64 g.W, .int .i64 g.H, .int .i64 g.Layers, .slice g_BlockedA g.Blocked.length g_BlockedC]), (1, .agg #[.int .i64 c.X, .int .i64 c.Y, .int .i64 c.Layer])]) rfl (fun a hf => ?_)
  have hs := Sat.start w0 none_
  unfold M_route_isCell at h
  refine wp_seq ?_
  refine R.list ?_
  refine S.box hf hs rfl rfl rfl [.int .i64 g.W, .int .i64 g.H, .int .i64 g.Layers, .slice g_BlockedA g.Blocked.length g_BlockedC] rfl rfl rfl (fun g1 a w hf hs => ?_)
  refine S.box hf hs rfl rfl rfl [.int .i64 c.X, .int .i64 c.Y, .int .i64 c.Layer] rfl rfl rfl (fun g2 a w hf hs => ?_)
  refine S.val hf hs (v := .bool false) rfl rfl rfl (V.pure rfl) (fun a hf => ?_)
  refine R.nil ?_
  refine X.then_ ?_
  refine wp_seq ?_
  refine R.list ?_
  refine S.val hf hs (v := .pointer (some ⟨g2, 0, none⟩)) rfl rfl rfl (V.fieldBox rfl rfl Try.runUnderlying28 rfl Try.sizeOf3 rfl rfl) (fun a hf => ?_)
  refine S.val hf hs (v := .int .i64 c.X) rfl rfl rfl (V.loadBox 0 rfl rfl rfl Try.isAgg3 Try.sizeOf3 rfl rfl) (fun a hf => ?_)
  refine S.val hf hs (v := .pointer (some ⟨g1, 0, none⟩)) rfl rfl rfl (V.fieldBox rfl rfl Try.runUnderlying24 rfl Try.sizeOf3 rfl rfl) (fun a hf => ?_)
  refine S.val hf hs (v := .int .i64 g.W) rfl rfl rfl (V.loadBox 1 rfl rfl rfl Try.isAgg3 Try.sizeOf3 rfl rfl) (fun a hf => ?_)
  refine S.val hf hs (v := .int .i64 (w64 (g.W - 1))) rfl rfl rfl (V.pure rfl) (fun a hf => ?_)
  refine S.callv hf rfl rfl rfl (call_fn (vs := [.int .i64 c.X, .int .i64 0, .int .i64 (w64 (g.W - 1))]) rfl rfl rfl Try.call40) (C_route_within c.X 0 (w64 (g.W - 1)) _ ) (fun a w hf hs' => ?_)
  replace hs := hs.call hs'; clear hs'
  refine S.split hf hs (b := (within c.X 0 (w64 (g.W - 1)))) rfl rfl rfl (V.pure rfl) (fun hc a hf => ?_) (fun hc a hf => ?_)
  · replace h := h.1 hc
    refine S.val hf hs (v := .pointer (some ⟨g2, 1, none⟩)) rfl rfl rfl (V.fieldBox rfl rfl Try.runUnderlying28 rfl Try.sizeOf3 rfl rfl) (fun a hf => ?_)
    refine S.val hf hs (v := .int .i64 c.Y) rfl rfl rfl (V.loadBox 0 rfl rfl rfl Try.isAgg3 Try.sizeOf3 rfl rfl) (fun a hf => ?_)
    refine S.val hf hs (v := .pointer (some ⟨g1, 1, none⟩)) rfl rfl rfl (V.fieldBox rfl rfl Try.runUnderlying24 rfl Try.sizeOf3 rfl rfl) (fun a hf => ?_)
    refine S.val hf hs (v := .int .i64 g.H) rfl rfl rfl (V.loadBox 1 rfl rfl rfl Try.isAgg3 Try.sizeOf3 rfl rfl) (fun a hf => ?_)
    refine S.val hf hs (v := .int .i64 (w64 (g.H - 1))) rfl rfl rfl (V.pure rfl) (fun a hf => ?_)
    refine S.callv hf rfl rfl rfl (call_fn (vs := [.int .i64 c.Y, .int .i64 0, .int .i64 (w64 (g.H - 1))]) rfl rfl rfl Try.call40) (C_route_within c.Y 0 (w64 (g.H - 1)) _ ) (fun a w hf hs' => ?_)
    replace hs := hs.call hs'; clear hs'
    refine S.val hf hs (v := .bool (within c.Y 0 (w64 (g.H - 1)))) rfl rfl rfl (V.pure rfl) (fun a hf => ?_)
    refine S.split hf hs (b := (within c.Y 0 (w64 (g.H - 1)))) rfl rfl rfl (V.pure rfl) (fun hc a hf => ?_) (fun hc a hf => ?_)
    · replace h := h.1 hc
      refine S.val hf hs (v := .pointer (some ⟨g2, 2, none⟩)) rfl rfl rfl (V.fieldBox rfl rfl Try.runUnderlying28 rfl Try.sizeOf3 rfl rfl) (fun a hf => ?_)
      refine S.val hf hs (v := .int .i64 c.Layer) rfl rfl rfl (V.loadBox 0 rfl rfl rfl Try.isAgg3 Try.sizeOf3 rfl rfl) (fun a hf => ?_)
      refine S.val hf hs (v := .pointer (some ⟨g1, 2, none⟩)) rfl rfl rfl (V.fieldBox rfl rfl Try.runUnderlying24 rfl Try.sizeOf3 rfl rfl) (fun a hf => ?_)
      refine S.val hf hs (v := .int .i64 g.Layers) rfl rfl rfl (V.loadBox 1 rfl rfl rfl Try.isAgg3 Try.sizeOf3 rfl rfl) (fun a hf => ?_)
      refine S.val hf hs (v := .int .i64 (w64 (g.Layers - 1))) rfl rfl rfl (V.pure rfl) (fun a hf => ?_)
      refine S.callv hf rfl rfl rfl (call_fn (vs := [.int .i64 c.Layer, .int .i64 0, .int .i64 (w64 (g.Layers - 1))]) rfl rfl rfl Try.call40) (C_route_within c.Layer 0 (w64 (g.Layers - 1)) _ ) (fun a w hf hs' => ?_)
      replace hs := hs.call hs'; clear hs'
      refine S.val hf hs (v := .bool (within c.Layer 0 (w64 (g.Layers - 1)))) rfl rfl rfl (V.pure rfl) (fun a hf => ?_)
      refine S.val hf hs (v := .bool (within c.Layer 0 (w64 (g.Layers - 1)))) rfl rfl rfl (V.pure rfl) (fun a hf => ?_)
      refine R.nil ?_
      refine X.then_ ?_
      refine wp_ret ?_
      exact L.ret hf (run_results1 Try.results54 (ResIs.tmp hf rfl)) ⟨(within c.Layer 0 (w64 (g.Layers - 1))), rfl, h, hs.nil⟩
    · replace h := h.2 hc
      refine S.skip hf rfl rfl rfl (fun a hf => ?_)
      refine S.skip hf rfl rfl rfl (fun a hf => ?_)
      refine S.skip hf rfl rfl rfl (fun a hf => ?_)
      refine S.skip hf rfl rfl rfl (fun a hf => ?_)
      refine S.skip hf rfl rfl rfl (fun a hf => ?_)
      refine S.skip hf rfl rfl rfl (fun a hf => ?_)
      refine S.val hf hs (v := .bool false) rfl rfl rfl (V.pure rfl) (fun a hf => ?_)
      refine S.val hf hs (v := .bool false) rfl rfl rfl (V.pure rfl) (fun a hf => ?_)
      refine R.nil ?_
      refine X.then_ ?_
      refine wp_ret ?_
      exact L.ret hf (run_results1 Try.results54 (ResIs.tmp hf rfl)) ⟨false, rfl, h, hs.nil⟩
  · replace h := h.2 hc
    refine S.skip hf rfl rfl rfl (fun a hf => ?_)
    refine S.skip hf rfl rfl rfl (fun a hf => ?_)
    refine S.skip hf rfl rfl rfl (fun a hf => ?_)
    refine S.skip hf rfl rfl rfl (fun a hf => ?_)
    refine S.skip hf rfl rfl rfl (fun a hf => ?_)
    refine S.skip hf rfl rfl rfl (fun a hf => ?_)
    refine S.val hf hs (v := .bool false) rfl rfl rfl (V.pure rfl) (fun a hf => ?_)
    refine S.val hf hs (v := .bool false) rfl rfl rfl (V.pure rfl) (fun a hf => ?_)
    refine S.skip hf rfl rfl rfl (fun a hf => ?_)
    refine S.skip hf rfl rfl rfl (fun a hf => ?_)
    refine S.skip hf rfl rfl rfl (fun a hf => ?_)
    refine S.skip hf rfl rfl rfl (fun a hf => ?_)
    refine S.skip hf rfl rfl rfl (fun a hf => ?_)
    refine S.skip hf rfl rfl rfl (fun a hf => ?_)
    refine S.val hf hs (v := .bool false) rfl rfl rfl (V.pure rfl) (fun a hf => ?_)
    refine S.val hf hs (v := .bool false) rfl rfl rfl (V.pure rfl) (fun a hf => ?_)
    refine R.nil ?_
    refine X.then_ ?_
    refine wp_ret ?_
    exact L.ret hf (run_results1 Try.results54 (ResIs.tmp hf rfl)) ⟨false, rfl, h, hs.nil⟩

set_option linter.unusedVariables false
def M_ref7_isCell (g : Grid) (c : Cell) (Q : Bool → Prop) : Prop :=
  cnd (within c.X 0 (w64 (g.W - 1))) (cnd (within c.Y 0 (w64 (g.H - 1))) (Q (within c.Layer 0 (w64 (g.Layers - 1)))) (Q false)) (Q false)
set_option maxHeartbeats 1000000 in
theorem R_ref7_isCell (g : Grid) (c : Cell) (w0 : World) (g_BlockedA : Option Addr) (g_BlockedC : Nat) (hv_g_Blocked : View w0 (old w0 none_) g_BlockedA g_BlockedC g.Blocked) (Q : Bool → Prop) (h : M_ref7_isCell g c Q) :
    Ret Try.prog 55 #[.agg #[.int .i64 g.W, .int .i64 g.H, .int .i64 g.Layers, .slice g_BlockedA g.Blocked.length g_BlockedC], .agg #[.int .i64 c.X, .int .i64 c.Y, .int .i64 c.Layer]] w0 fun v w' => ∃ (r0 : Bool), v = .bool r0 ∧ Q r0 ∧ Sat w0 none_ [] w' := by
  refine fn_enter Try.func55 rfl Try.ntmps55 rfl (fs := [(0, .agg #[.int .i64 g.W, .int .i64 g.H, .int .i64 g.Layers, .slice g_BlockedA g.Blocked.length g_BlockedC]), (1, .agg #[.int .i64 c.X, .int .i64 c.Y, .int .i64 c.Layer])]) rfl (fun a hf => ?_)
  have hs := Sat.start w0 none_
  unfold M_ref7_isCell at h
  refine wp_seq ?_
  refine R.list ?_
  refine S.box hf hs rfl rfl rfl [.int .i64 g.W, .int .i64 g.H, .int .i64 g.Layers, .slice g_BlockedA g.Blocked.length g_BlockedC] rfl rfl rfl (fun g1 a w hf hs => ?_)
  refine S.box hf hs rfl rfl rfl [.int .i64 c.X, .int .i64 c.Y, .int .i64 c.Layer] rfl rfl rfl (fun g2 a w hf hs => ?_)
  refine S.val hf hs (v := .bool false) rfl rfl rfl (V.pure rfl) (fun a hf => ?_)
  refine R.nil ?_
  refine X.then_ ?_
  refine wp_seq ?_
  refine R.list ?_
  refine S.val hf hs (v := .pointer (some ⟨g2, 0, none⟩)) rfl rfl rfl (V.fieldBox rfl rfl Try.runUnderlying28 rfl Try.sizeOf3 rfl rfl) (fun a hf => ?_)
  refine S.val hf hs (v := .int .i64 c.X) rfl rfl rfl (V.loadBox 0 rfl rfl rfl Try.isAgg3 Try.sizeOf3 rfl rfl) (fun a hf => ?_)
  refine S.val hf hs (v := .pointer (some ⟨g1, 0, none⟩)) rfl rfl rfl (V.fieldBox rfl rfl Try.runUnderlying24 rfl Try.sizeOf3 rfl rfl) (fun a hf => ?_)
  refine S.val hf hs (v := .int .i64 g.W) rfl rfl rfl (V.loadBox 1 rfl rfl rfl Try.isAgg3 Try.sizeOf3 rfl rfl) (fun a hf => ?_)
  refine S.val hf hs (v := .int .i64 (w64 (g.W - 1))) rfl rfl rfl (V.pure rfl) (fun a hf => ?_)
  refine S.callv hf rfl rfl rfl (call_fn (vs := [.int .i64 c.X, .int .i64 0, .int .i64 (w64 (g.W - 1))]) rfl rfl rfl Try.call43) (C_ref7_within c.X 0 (w64 (g.W - 1)) _ ) (fun a w hf hs' => ?_)
  replace hs := hs.call hs'; clear hs'
  refine S.split hf hs (b := (within c.X 0 (w64 (g.W - 1)))) rfl rfl rfl (V.pure rfl) (fun hc a hf => ?_) (fun hc a hf => ?_)
  · replace h := h.1 hc
    refine S.val hf hs (v := .pointer (some ⟨g2, 1, none⟩)) rfl rfl rfl (V.fieldBox rfl rfl Try.runUnderlying28 rfl Try.sizeOf3 rfl rfl) (fun a hf => ?_)
    refine S.val hf hs (v := .int .i64 c.Y) rfl rfl rfl (V.loadBox 0 rfl rfl rfl Try.isAgg3 Try.sizeOf3 rfl rfl) (fun a hf => ?_)
    refine S.val hf hs (v := .pointer (some ⟨g1, 1, none⟩)) rfl rfl rfl (V.fieldBox rfl rfl Try.runUnderlying24 rfl Try.sizeOf3 rfl rfl) (fun a hf => ?_)
    refine S.val hf hs (v := .int .i64 g.H) rfl rfl rfl (V.loadBox 1 rfl rfl rfl Try.isAgg3 Try.sizeOf3 rfl rfl) (fun a hf => ?_)
    refine S.val hf hs (v := .int .i64 (w64 (g.H - 1))) rfl rfl rfl (V.pure rfl) (fun a hf => ?_)
    refine S.callv hf rfl rfl rfl (call_fn (vs := [.int .i64 c.Y, .int .i64 0, .int .i64 (w64 (g.H - 1))]) rfl rfl rfl Try.call43) (C_ref7_within c.Y 0 (w64 (g.H - 1)) _ ) (fun a w hf hs' => ?_)
    replace hs := hs.call hs'; clear hs'
    refine S.val hf hs (v := .bool (within c.Y 0 (w64 (g.H - 1)))) rfl rfl rfl (V.pure rfl) (fun a hf => ?_)
    refine S.split hf hs (b := (within c.Y 0 (w64 (g.H - 1)))) rfl rfl rfl (V.pure rfl) (fun hc a hf => ?_) (fun hc a hf => ?_)
    · replace h := h.1 hc
      refine S.val hf hs (v := .pointer (some ⟨g2, 2, none⟩)) rfl rfl rfl (V.fieldBox rfl rfl Try.runUnderlying28 rfl Try.sizeOf3 rfl rfl) (fun a hf => ?_)
      refine S.val hf hs (v := .int .i64 c.Layer) rfl rfl rfl (V.loadBox 0 rfl rfl rfl Try.isAgg3 Try.sizeOf3 rfl rfl) (fun a hf => ?_)
      refine S.val hf hs (v := .pointer (some ⟨g1, 2, none⟩)) rfl rfl rfl (V.fieldBox rfl rfl Try.runUnderlying24 rfl Try.sizeOf3 rfl rfl) (fun a hf => ?_)
      refine S.val hf hs (v := .int .i64 g.Layers) rfl rfl rfl (V.loadBox 1 rfl rfl rfl Try.isAgg3 Try.sizeOf3 rfl rfl) (fun a hf => ?_)
      refine S.val hf hs (v := .int .i64 (w64 (g.Layers - 1))) rfl rfl rfl (V.pure rfl) (fun a hf => ?_)
      refine S.callv hf rfl rfl rfl (call_fn (vs := [.int .i64 c.Layer, .int .i64 0, .int .i64 (w64 (g.Layers - 1))]) rfl rfl rfl Try.call43) (C_ref7_within c.Layer 0 (w64 (g.Layers - 1)) _ ) (fun a w hf hs' => ?_)
      replace hs := hs.call hs'; clear hs'
      refine S.val hf hs (v := .bool (within c.Layer 0 (w64 (g.Layers - 1)))) rfl rfl rfl (V.pure rfl) (fun a hf => ?_)
      refine S.val hf hs (v := .bool (within c.Layer 0 (w64 (g.Layers - 1)))) rfl rfl rfl (V.pure rfl) (fun a hf => ?_)
      refine R.nil ?_
      refine X.then_ ?_
      refine wp_ret ?_
      exact L.ret hf (run_results1 Try.results55 (ResIs.tmp hf rfl)) ⟨(within c.Layer 0 (w64 (g.Layers - 1))), rfl, h, hs.nil⟩
    · replace h := h.2 hc
      refine S.skip hf rfl rfl rfl (fun a hf => ?_)
      refine S.skip hf rfl rfl rfl (fun a hf => ?_)
      refine S.skip hf rfl rfl rfl (fun a hf => ?_)
      refine S.skip hf rfl rfl rfl (fun a hf => ?_)
      refine S.skip hf rfl rfl rfl (fun a hf => ?_)
      refine S.skip hf rfl rfl rfl (fun a hf => ?_)
      refine S.val hf hs (v := .bool false) rfl rfl rfl (V.pure rfl) (fun a hf => ?_)
      refine S.val hf hs (v := .bool false) rfl rfl rfl (V.pure rfl) (fun a hf => ?_)
      refine R.nil ?_
      refine X.then_ ?_
      refine wp_ret ?_
      exact L.ret hf (run_results1 Try.results55 (ResIs.tmp hf rfl)) ⟨false, rfl, h, hs.nil⟩
  · replace h := h.2 hc
    refine S.skip hf rfl rfl rfl (fun a hf => ?_)
    refine S.skip hf rfl rfl rfl (fun a hf => ?_)
    refine S.skip hf rfl rfl rfl (fun a hf => ?_)
    refine S.skip hf rfl rfl rfl (fun a hf => ?_)
    refine S.skip hf rfl rfl rfl (fun a hf => ?_)
    refine S.skip hf rfl rfl rfl (fun a hf => ?_)
    refine S.val hf hs (v := .bool false) rfl rfl rfl (V.pure rfl) (fun a hf => ?_)
    refine S.val hf hs (v := .bool false) rfl rfl rfl (V.pure rfl) (fun a hf => ?_)
    refine S.skip hf rfl rfl rfl (fun a hf => ?_)
    refine S.skip hf rfl rfl rfl (fun a hf => ?_)
    refine S.skip hf rfl rfl rfl (fun a hf => ?_)
    refine S.skip hf rfl rfl rfl (fun a hf => ?_)
    refine S.skip hf rfl rfl rfl (fun a hf => ?_)
    refine S.skip hf rfl rfl rfl (fun a hf => ?_)
    refine S.val hf hs (v := .bool false) rfl rfl rfl (V.pure rfl) (fun a hf => ?_)
    refine S.val hf hs (v := .bool false) rfl rfl rfl (V.pure rfl) (fun a hf => ?_)
    refine R.nil ?_
    refine X.then_ ?_
    refine wp_ret ?_
    exact L.ret hf (run_results1 Try.results55 (ResIs.tmp hf rfl)) ⟨false, rfl, h, hs.nil⟩

set_option linter.unusedVariables false
def M_route_number (g : Grid) (c : Cell) (Q : Int → Prop) : Prop :=
  Q (w64 ((w64 ((w64 ((w64 (c.Layer * g.H)) + c.Y)) * g.W)) + c.X))
set_option maxHeartbeats 1000000 in
theorem R_route_number (g : Grid) (c : Cell) (w0 : World) (g_BlockedA : Option Addr) (g_BlockedC : Nat) (hv_g_Blocked : View w0 (old w0 none_) g_BlockedA g_BlockedC g.Blocked) (Q : Int → Prop) (h : M_route_number g c Q) :
    Ret Try.prog 36 #[.agg #[.int .i64 g.W, .int .i64 g.H, .int .i64 g.Layers, .slice g_BlockedA g.Blocked.length g_BlockedC], .agg #[.int .i64 c.X, .int .i64 c.Y, .int .i64 c.Layer]] w0 fun v w' => ∃ (r0 : Int), v = .int .i64 r0 ∧ Q r0 ∧ Sat w0 none_ [] w' := by
  refine fn_enter Try.func36 rfl Try.ntmps36 rfl (fs := [(0, .agg #[.int .i64 g.W, .int .i64 g.H, .int .i64 g.Layers, .slice g_BlockedA g.Blocked.length g_BlockedC]), (1, .agg #[.int .i64 c.X, .int .i64 c.Y, .int .i64 c.Layer])]) rfl (fun a hf => ?_)
  have hs := Sat.start w0 none_
  unfold M_route_number at h
  refine wp_seq ?_
  refine R.list ?_
  refine S.box hf hs rfl rfl rfl [.int .i64 g.W, .int .i64 g.H, .int .i64 g.Layers, .slice g_BlockedA g.Blocked.length g_BlockedC] rfl rfl rfl (fun g1 a w hf hs => ?_)
  refine S.box hf hs rfl rfl rfl [.int .i64 c.X, .int .i64 c.Y, .int .i64 c.Layer] rfl rfl rfl (fun g2 a w hf hs => ?_)
  refine S.val hf hs (v := .int .i64 0) rfl rfl rfl (V.pure rfl) (fun a hf => ?_)
  refine R.nil ?_
  refine X.then_ ?_
  refine wp_seq ?_
  refine R.list ?_
  refine S.val hf hs (v := .pointer (some ⟨g2, 2, none⟩)) rfl rfl rfl (V.fieldBox rfl rfl Try.runUnderlying28 rfl Try.sizeOf3 rfl rfl) (fun a hf => ?_)
  refine S.val hf hs (v := .int .i64 c.Layer) rfl rfl rfl (V.loadBox 0 rfl rfl rfl Try.isAgg3 Try.sizeOf3 rfl rfl) (fun a hf => ?_)
  refine S.val hf hs (v := .pointer (some ⟨g1, 1, none⟩)) rfl rfl rfl (V.fieldBox rfl rfl Try.runUnderlying24 rfl Try.sizeOf3 rfl rfl) (fun a hf => ?_)
  refine S.val hf hs (v := .int .i64 g.H) rfl rfl rfl (V.loadBox 1 rfl rfl rfl Try.isAgg3 Try.sizeOf3 rfl rfl) (fun a hf => ?_)
  refine S.val hf hs (v := .int .i64 (w64 (c.Layer * g.H))) rfl rfl rfl (V.pure rfl) (fun a hf => ?_)
  refine S.val hf hs (v := .pointer (some ⟨g2, 1, none⟩)) rfl rfl rfl (V.fieldBox rfl rfl Try.runUnderlying28 rfl Try.sizeOf3 rfl rfl) (fun a hf => ?_)
  refine S.val hf hs (v := .int .i64 c.Y) rfl rfl rfl (V.loadBox 0 rfl rfl rfl Try.isAgg3 Try.sizeOf3 rfl rfl) (fun a hf => ?_)
  refine S.val hf hs (v := .int .i64 (w64 ((w64 (c.Layer * g.H)) + c.Y))) rfl rfl rfl (V.pure rfl) (fun a hf => ?_)
  refine S.val hf hs (v := .pointer (some ⟨g1, 0, none⟩)) rfl rfl rfl (V.fieldBox rfl rfl Try.runUnderlying24 rfl Try.sizeOf3 rfl rfl) (fun a hf => ?_)
  refine S.val hf hs (v := .int .i64 g.W) rfl rfl rfl (V.loadBox 1 rfl rfl rfl Try.isAgg3 Try.sizeOf3 rfl rfl) (fun a hf => ?_)
  refine S.val hf hs (v := .int .i64 (w64 ((w64 ((w64 (c.Layer * g.H)) + c.Y)) * g.W))) rfl rfl rfl (V.pure rfl) (fun a hf => ?_)
  refine S.val hf hs (v := .pointer (some ⟨g2, 0, none⟩)) rfl rfl rfl (V.fieldBox rfl rfl Try.runUnderlying28 rfl Try.sizeOf3 rfl rfl) (fun a hf => ?_)
  refine S.val hf hs (v := .int .i64 c.X) rfl rfl rfl (V.loadBox 0 rfl rfl rfl Try.isAgg3 Try.sizeOf3 rfl rfl) (fun a hf => ?_)
  refine S.val hf hs (v := .int .i64 (w64 ((w64 ((w64 ((w64 (c.Layer * g.H)) + c.Y)) * g.W)) + c.X))) rfl rfl rfl (V.pure rfl) (fun a hf => ?_)
  refine S.val hf hs (v := .int .i64 (w64 ((w64 ((w64 ((w64 (c.Layer * g.H)) + c.Y)) * g.W)) + c.X))) rfl rfl rfl (V.pure rfl) (fun a hf => ?_)
  refine R.nil ?_
  refine X.then_ ?_
  refine wp_ret ?_
  exact L.ret hf (run_results1 Try.results36 (ResIs.tmp hf rfl)) ⟨(w64 ((w64 ((w64 ((w64 (c.Layer * g.H)) + c.Y)) * g.W)) + c.X)), rfl, h, hs.nil⟩

set_option linter.unusedVariables false
def M_route_cell (g : Grid) (n : Int) (Q : Cell → Prop) : Prop :=
  must (g.W ≠ 0) (must (g.W ≠ 0) (must (g.H ≠ 0) (must (g.W ≠ 0) (must (g.H ≠ 0) (Q (⟨n.tmod g.W, (w64 (n.tdiv g.W)).tmod g.H, w64 ((w64 (n.tdiv g.W)).tdiv g.H)⟩ : Cell))))))
set_option maxHeartbeats 1000000 in
theorem R_route_cell (g : Grid) (n : Int) (w0 : World) (g_BlockedA : Option Addr) (g_BlockedC : Nat) (hv_g_Blocked : View w0 (old w0 none_) g_BlockedA g_BlockedC g.Blocked) (Q : Cell → Prop) (h : M_route_cell g n Q) :
    Ret Try.prog 75 #[.agg #[.int .i64 g.W, .int .i64 g.H, .int .i64 g.Layers, .slice g_BlockedA g.Blocked.length g_BlockedC], .int .i64 n] w0 fun v w' => ∃ (r0 : Cell), v = .agg #[.int .i64 r0.X, .int .i64 r0.Y, .int .i64 r0.Layer] ∧ Q r0 ∧ Sat w0 none_ [] w' := by
  refine fn_enter Try.func75 rfl Try.ntmps75 rfl (fs := [(0, .agg #[.int .i64 g.W, .int .i64 g.H, .int .i64 g.Layers, .slice g_BlockedA g.Blocked.length g_BlockedC]), (1, .int .i64 n)]) rfl (fun a hf => ?_)
  have hs := Sat.start w0 none_
  unfold M_route_cell at h
  refine wp_seq ?_
  refine R.list ?_
  refine S.box hf hs rfl rfl rfl [.int .i64 g.W, .int .i64 g.H, .int .i64 g.Layers, .slice g_BlockedA g.Blocked.length g_BlockedC] rfl rfl rfl (fun g1 a w hf hs => ?_)
  refine S.alloc hf hs rfl rfl rfl [.int .i64 0, .int .i64 0, .int .i64 0] rfl Try.zeroValue28 rfl (fun g2 a w hf hs => ?_)
  refine R.nil ?_
  refine X.then_ ?_
  refine wp_seq ?_
  refine M.start 19 (Sat w0 none_ [hbox g2 28 [.int .i64 0, .int .i64 0, .int .i64 0], hbox g1 24 [.int .i64 g.W, .int .i64 g.H, .int .i64 g.Layers, .slice g_BlockedA g.Blocked.length g_BlockedC]]) mo ?_
  replace hs := hs.drew
  refine M.val hf hs (v := .int .i64 n) (i := 0) rfl rfl rfl rfl (by kernel_rfl) (by kernel_rfl) (by kernel_rfl) (by kernel_rfl) (by kernel_rfl) rfl (V.pure rfl) (fun a hf => ?_)
  refine M.val hf hs (v := .pointer (some ⟨g1, 0, none⟩)) (i := 1) rfl rfl rfl rfl (by kernel_rfl) (by kernel_rfl) (by kernel_rfl) (by kernel_rfl) (by kernel_rfl) rfl (V.fieldBox rfl rfl Try.runUnderlying24 rfl Try.sizeOf3 rfl rfl) (fun a hf => ?_)
  refine M.val hf hs (v := .int .i64 g.W) (i := 2) rfl rfl rfl rfl (by kernel_rfl) (by kernel_rfl) (by kernel_rfl) (by kernel_rfl) (by kernel_rfl) rfl (V.loadBox 1 rfl rfl rfl Try.isAgg3 Try.sizeOf3 rfl rfl) (fun a hf => ?_)
  obtain ⟨hne, h⟩ := h
  refine M.val hf hs (v := .int .i64 (n.tmod g.W)) (i := 3) rfl rfl rfl rfl (by kernel_rfl) (by kernel_rfl) (by kernel_rfl) (by kernel_rfl) (by kernel_rfl) rfl (V.rem rfl rfl rfl hne) (fun a hf => ?_)
  refine M.val hf hs (v := .int .i64 n) (i := 4) rfl rfl rfl rfl (by kernel_rfl) (by kernel_rfl) (by kernel_rfl) (by kernel_rfl) (by kernel_rfl) rfl (V.pure rfl) (fun a hf => ?_)
  refine M.val hf hs (v := .pointer (some ⟨g1, 0, none⟩)) (i := 5) rfl rfl rfl rfl (by kernel_rfl) (by kernel_rfl) (by kernel_rfl) (by kernel_rfl) (by kernel_rfl) rfl (V.fieldBox rfl rfl Try.runUnderlying24 rfl Try.sizeOf3 rfl rfl) (fun a hf => ?_)
  refine M.val hf hs (v := .int .i64 g.W) (i := 6) rfl rfl rfl rfl (by kernel_rfl) (by kernel_rfl) (by kernel_rfl) (by kernel_rfl) (by kernel_rfl) rfl (V.loadBox 1 rfl rfl rfl Try.isAgg3 Try.sizeOf3 rfl rfl) (fun a hf => ?_)
  obtain ⟨hne, h⟩ := h
  refine M.val hf hs (v := .int .i64 (w64 (n.tdiv g.W))) (i := 7) rfl rfl rfl rfl (by kernel_rfl) (by kernel_rfl) (by kernel_rfl) (by kernel_rfl) (by kernel_rfl) rfl (V.quo rfl rfl rfl hne) (fun a hf => ?_)
  refine M.val hf hs (v := .pointer (some ⟨g1, 1, none⟩)) (i := 8) rfl rfl rfl rfl (by kernel_rfl) (by kernel_rfl) (by kernel_rfl) (by kernel_rfl) (by kernel_rfl) rfl (V.fieldBox rfl rfl Try.runUnderlying24 rfl Try.sizeOf3 rfl rfl) (fun a hf => ?_)
  refine M.val hf hs (v := .int .i64 g.H) (i := 9) rfl rfl rfl rfl (by kernel_rfl) (by kernel_rfl) (by kernel_rfl) (by kernel_rfl) (by kernel_rfl) rfl (V.loadBox 1 rfl rfl rfl Try.isAgg3 Try.sizeOf3 rfl rfl) (fun a hf => ?_)
  obtain ⟨hne, h⟩ := h
  refine M.val hf hs (v := .int .i64 ((w64 (n.tdiv g.W)).tmod g.H)) (i := 10) rfl rfl rfl rfl (by kernel_rfl) (by kernel_rfl) (by kernel_rfl) (by kernel_rfl) (by kernel_rfl) rfl (V.rem rfl rfl rfl hne) (fun a hf => ?_)
  refine M.val hf hs (v := .int .i64 n) (i := 11) rfl rfl rfl rfl (by kernel_rfl) (by kernel_rfl) (by kernel_rfl) (by kernel_rfl) (by kernel_rfl) rfl (V.pure rfl) (fun a hf => ?_)
  refine M.val hf hs (v := .pointer (some ⟨g1, 0, none⟩)) (i := 12) rfl rfl rfl rfl (by kernel_rfl) (by kernel_rfl) (by kernel_rfl) (by kernel_rfl) (by kernel_rfl) rfl (V.fieldBox rfl rfl Try.runUnderlying24 rfl Try.sizeOf3 rfl rfl) (fun a hf => ?_)
  refine M.val hf hs (v := .int .i64 g.W) (i := 13) rfl rfl rfl rfl (by kernel_rfl) (by kernel_rfl) (by kernel_rfl) (by kernel_rfl) (by kernel_rfl) rfl (V.loadBox 1 rfl rfl rfl Try.isAgg3 Try.sizeOf3 rfl rfl) (fun a hf => ?_)
  obtain ⟨hne, h⟩ := h
  refine M.val hf hs (v := .int .i64 (w64 (n.tdiv g.W))) (i := 14) rfl rfl rfl rfl (by kernel_rfl) (by kernel_rfl) (by kernel_rfl) (by kernel_rfl) (by kernel_rfl) rfl (V.quo rfl rfl rfl hne) (fun a hf => ?_)
  refine M.val hf hs (v := .pointer (some ⟨g1, 1, none⟩)) (i := 15) rfl rfl rfl rfl (by kernel_rfl) (by kernel_rfl) (by kernel_rfl) (by kernel_rfl) (by kernel_rfl) rfl (V.fieldBox rfl rfl Try.runUnderlying24 rfl Try.sizeOf3 rfl rfl) (fun a hf => ?_)
  refine M.val hf hs (v := .int .i64 g.H) (i := 16) rfl rfl rfl rfl (by kernel_rfl) (by kernel_rfl) (by kernel_rfl) (by kernel_rfl) (by kernel_rfl) rfl (V.loadBox 1 rfl rfl rfl Try.isAgg3 Try.sizeOf3 rfl rfl) (fun a hf => ?_)
  obtain ⟨hne, h⟩ := h
  refine M.val hf hs (v := .int .i64 (w64 ((w64 (n.tdiv g.W)).tdiv g.H))) (i := 17) rfl rfl rfl rfl (by kernel_rfl) (by kernel_rfl) (by kernel_rfl) (by kernel_rfl) (by kernel_rfl) rfl (V.quo rfl rfl rfl hne) (fun a hf => ?_)
  refine M.val hf hs (v := .agg #[.int .i64 (n.tmod g.W), .int .i64 ((w64 (n.tdiv g.W)).tmod g.H), .int .i64 (w64 ((w64 (n.tdiv g.W)).tdiv g.H))]) (i := 18) rfl rfl rfl rfl (by kernel_rfl) (by kernel_rfl) (by kernel_rfl) (by kernel_rfl) (by kernel_rfl) rfl (V.build (places := #[(0, 1), (1, 1), (2, 1)]) rfl Try.zeroValue28 Try.runUnderlying28 (by intro w; simp [Try.sizeOf3]) rfl rfl) (fun a hf => ?_)
  refine M.last (i := 19) rfl (by kernel_rfl) (by kernel_rfl) ?_
  refine S.storeBox 0 hf hs rfl rfl [.int .i64 (n.tmod g.W), .int .i64 ((w64 (n.tdiv g.W)).tmod g.H), .int .i64 (w64 ((w64 (n.tdiv g.W)).tdiv g.H))] [.int .i64 (n.tmod g.W), .int .i64 ((w64 (n.tdiv g.W)).tmod g.H), .int .i64 (w64 ((w64 (n.tdiv g.W)).tdiv g.H))] rfl rfl rfl rfl rfl Try.sizeOf28 rfl rfl rfl rfl (fun a w hf hs => ?_)
  refine R.nil ?_
  refine X.then_ ?_
  refine M.done (by kernel_rfl) ?_
  refine X.then_ ?_
  refine wp_ret ?_
  exact L.ret hf (run_results1 Try.results75 (ResIs.box hf hs 0 rfl rfl Try.isAgg28 Try.sizeOf28 rfl rfl)) ⟨(⟨n.tmod g.W, (w64 (n.tdiv g.W)).tmod g.H, w64 ((w64 (n.tdiv g.W)).tdiv g.H)⟩ : Cell), rfl, h, hs.nil⟩

set_option linter.unusedVariables false
def M_route_CheckGrid_k4 (Q : Int → Prop) (next1 : Prop) (c3 : Bool) : Prop :=
  cnd c3 (Q 8) (next1)
def M_route_CheckGrid_L1 (g : Grid) (Q : Int → Prop) (k3 : Nat) (xk3 : Cell)  (next1 : Prop) : Prop :=
  M_route_isCell g xk3 fun y1 => cnd (!y1) (Q 1) (cnd (decide ((k3 : Int) > 0)) (idx g.Blocked (w64 ((k3 : Int) - 1)) fun x1 => M_route_number g xk3 fun y2 => M_route_number g x1 fun y3 => M_route_CheckGrid_k4 Q next1 (decide (y2 ≤ y3))) (M_route_CheckGrid_k4 Q next1 false))
def M_route_CheckGrid_k2 (g : Grid) (Q : Int → Prop) (c2 : Bool) : Prop :=
  cnd c2 (Q 2) (forIn' (fun k x (s : Unit) next => M_route_CheckGrid_L1 g Q k x (next ())) (fun (s : Unit) => Q 0) g.Blocked 0 ())
def M_route_CheckGrid_k1 (g : Grid) (Q : Int → Prop) (c1 : Bool) : Prop :=
  cnd c1 (Q 1) (cnd (decide (w64 ((w64 (g.W * g.H)) * g.Layers) > 40000)) (M_route_CheckGrid_k2 g Q true) (M_route_CheckGrid_k2 g Q (decide ((g.Blocked.length : Int) > 40000))))
def M_route_CheckGrid (g : Grid) (Q : Int → Prop) : Prop :=
  cnd (!(within g.W 1 200)) (M_route_CheckGrid_k1 g Q true) (cnd (!(within g.H 1 200)) (M_route_CheckGrid_k1 g Q true) (M_route_CheckGrid_k1 g Q (!(within g.Layers 1 8))))
set_option maxHeartbeats 1000000 in
theorem R_route_CheckGrid (g : Grid) (w0 : World) (g_BlockedA : Option Addr) (g_BlockedC : Nat) (hv_g_Blocked : View w0 (old w0 none_) g_BlockedA g_BlockedC g.Blocked) (Q : Int → Prop) (h : M_route_CheckGrid g Q) :
    Ret Try.prog 22 #[.agg #[.int .i64 g.W, .int .i64 g.H, .int .i64 g.Layers, .slice g_BlockedA g.Blocked.length g_BlockedC]] w0 fun v w' => ∃ (r0 : Int), v = .int .i64 r0 ∧ Q r0 ∧ Sat w0 none_ [] w' := by
  refine fn_enter Try.func22 rfl Try.ntmps22 rfl (fs := [(0, .agg #[.int .i64 g.W, .int .i64 g.H, .int .i64 g.Layers, .slice g_BlockedA g.Blocked.length g_BlockedC])]) rfl (fun a hf => ?_)
  have hs := Sat.start w0 none_
  unfold M_route_CheckGrid at h
  refine wp_seq ?_
  refine R.list ?_
  refine S.box hf hs rfl rfl rfl [.int .i64 g.W, .int .i64 g.H, .int .i64 g.Layers, .slice g_BlockedA g.Blocked.length g_BlockedC] rfl rfl rfl (fun g1 a w hf hs => ?_)
  refine S.val hf hs (v := .int .i64 0) rfl rfl rfl (V.pure rfl) (fun a hf => ?_)
  refine R.nil ?_
  refine X.then_ ?_
  refine wp_seq ?_
  refine wp_seq ?_
  refine C.cut (J := fun a w => ∃ (c1 : Bool), M_route_CheckGrid_k1 g Q c1 ∧ FrOk 65 [(1, .pointer (some ⟨g1, 0, none⟩)), (20, .bool c1)] a ∧ Sat w0 none_ [hbox g1 24 [.int .i64 g.W, .int .i64 g.H, .int .i64 g.Layers, .slice g_BlockedA g.Blocked.length g_BlockedC]] w) ?_ ?_
  · rintro a w ⟨c1, h, hf, hs⟩
    unfold M_route_CheckGrid_k1 at h
    refine C.cond hf (b := c1) rfl (fun hc => ?_) (fun hc => ?_)
    · replace h := h.1 hc
      refine wp_seq ?_
      refine R.list ?_
      refine S.val hf hs (v := .int .i64 1) rfl rfl rfl (V.pure rfl) (fun a hf => ?_)
      refine R.nil ?_
      refine X.then_ ?_
      refine wp_ret ?_
      refine X.then_ret ?_
      exact L.ret hf (run_results1 Try.results22 (ResIs.tmp hf rfl)) ⟨1, rfl, h, hs.nil⟩
    · replace h := h.2 hc
      refine wp_skip ?_
      refine X.then_ ?_
      refine wp_seq ?_
      refine wp_seq ?_
      refine C.cut (J := fun a w => ∃ (c2 : Bool), M_route_CheckGrid_k2 g Q c2 ∧ FrOk 65 [(1, .pointer (some ⟨g1, 0, none⟩)), (35, .bool c2)] a ∧ Sat w0 none_ [hbox g1 24 [.int .i64 g.W, .int .i64 g.H, .int .i64 g.Layers, .slice g_BlockedA g.Blocked.length g_BlockedC]] w) ?_ ?_
      · rintro a w ⟨c2, h, hf, hs⟩
        unfold M_route_CheckGrid_k2 at h
        refine C.cond hf (b := c2) rfl (fun hc => ?_) (fun hc => ?_)
        · replace h := h.1 hc
          refine wp_seq ?_
          refine R.list ?_
          refine S.val hf hs (v := .int .i64 2) rfl rfl rfl (V.pure rfl) (fun a hf => ?_)
          refine R.nil ?_
          refine X.then_ ?_
          refine wp_ret ?_
          refine X.then_ret ?_
          exact L.ret hf (run_results1 Try.results22 (ResIs.tmp hf rfl)) ⟨2, rfl, h, hs.nil⟩
        · replace h := h.2 hc
          refine wp_skip ?_
          refine X.then_ ?_
          refine wp_seq ?_
          refine wp_seq ?_
          refine R.list ?_
          refine S.val hf hs (v := .pointer (some ⟨g1, 3, none⟩)) rfl rfl rfl (V.fieldBox rfl rfl Try.runUnderlying24 rfl Try.sizeOf22 rfl rfl) (fun a hf => ?_)
          refine S.val hf hs (v := .slice g_BlockedA g.Blocked.length g_BlockedC) rfl rfl rfl (V.loadBox 0 rfl rfl rfl Try.isAgg22 Try.sizeOf22 rfl rfl) (fun a hf => ?_)
          refine S.val hf hs (v := .int .i64 (g.Blocked.length : Int)) rfl rfl rfl (V.len rfl rfl Try.runUnderlying22) (fun a hf => ?_)
          refine S.val hf hs (v := .int .i64 0) rfl rfl rfl (V.pure rfl) (fun a hf => ?_)
          refine R.nil ?_
          refine X.then_ ?_
          refine wp_block ?_
          have hlenk3 := hv_g_Blocked.len64
          refine C.range (fun (ll : List Cell) a w => ∃ (k3 : Nat) , g.Blocked.drop k3 = ll ∧ k3 + ll.length = g.Blocked.length ∧ forIn' (fun k x (s : Unit) next => M_route_CheckGrid_L1 g Q k x (next ())) (fun (s : Unit) => Q 0) ll k3 () ∧ FrOk 65 [(39, .int .i64 (k3 : Int)), (1, .pointer (some ⟨g1, 0, none⟩)), (37, .slice g_BlockedA g.Blocked.length g_BlockedC), (38, .int .i64 (g.Blocked.length : Int))] a ∧ Sat w0 none_ [hbox g1 24 [.int .i64 g.W, .int .i64 g.H, .int .i64 g.Layers, .slice g_BlockedA g.Blocked.length g_BlockedC]] w) g.Blocked ⟨0, rfl, Nat.zero_add _, h, ((((hf.nil.cons (hf.get 38 _ rfl)).cons (hf.get 37 _ rfl)).cons (hf.get 1 _ rfl)).cons (hf.get 39 _ rfl)), hs⟩ ?_
          clear h hf hs
          rintro llk3 a w ⟨k3, hlk3, hkk3, h, hf, hs⟩
          cases llk3 with
          | nil =>
            have hc := range_done hkk3
            replace h : Q 0 := h
            refine wp_seq ?_
            refine R.list ?_
            refine S.val hf hs (v := .bool false) rfl rfl rfl (V.cmp false rfl rfl rfl rfl hc) (fun a hf => ?_)
            refine R.nil ?_
            refine X.then_ ?_
            refine wp_seq ?_
            refine C.no hf rfl ?_
            refine wp_exit ?_
            refine X.then_exit ?_
            refine X.then_exit ?_
            refine X.blk_exit ?_
            refine X.then_ ?_
            refine wp_seq ?_
            refine R.list ?_
            refine S.val hf hs (v := .int .i64 0) rfl rfl rfl (V.pure rfl) (fun a hf => ?_)
            refine R.nil ?_
            refine X.then_ ?_
            refine wp_ret ?_
            exact L.ret hf (run_results1 Try.results22 (ResIs.tmp hf rfl)) ⟨0, rfl, h, hs.nil⟩
          | cons xk3 llk3 =>
            have hltk3 := range_lt hkk3; have hc := range_go hkk3; have hxk3 := range_get hlk3
            obtain ⟨next1, hnext1⟩ : ∃ X : Prop, X = (forIn' (fun k x (s : Unit) next => M_route_CheckGrid_L1 g Q k x (next ())) (fun (s : Unit) => Q 0) llk3 (k3 + 1) ()) := ⟨_, rfl⟩
            replace h : M_route_CheckGrid_L1 g Q k3 xk3  next1 := by rw [hnext1]; exact h
            unfold M_route_CheckGrid_L1 at h
            refine wp_seq ?_
            refine R.list ?_
            refine S.val hf hs (v := .bool true) rfl rfl rfl (V.cmp true rfl rfl rfl rfl hc) (fun a hf => ?_)
            refine R.nil ?_
            refine X.then_ ?_
            refine wp_seq ?_
            refine C.yes hf rfl ?_
            refine wp_skip ?_
            refine X.then_ ?_
            refine wp_seq ?_
            refine wp_block ?_
            refine wp_seq ?_
            refine R.list ?_
            refine S.val hf hs (v := .int .i64 (k3 : Int)) rfl rfl rfl (V.pure rfl) (fun a hf => ?_)
            refine S.val hf hs (v := elemPtr g_BlockedA (k3 * 3)) rfl rfl rfl (V.index rfl rfl rfl Try.runUnderlying22 Try.sizeOf28 (hv_g_Blocked.some_ (lt_of_get hxk3)) (Int.natCast_nonneg _) (lt_of_get hxk3) rfl) (fun a hf => ?_)
            refine S.val hf hs (v := .agg #[.int .i64 xk3.X, .int .i64 xk3.Y, .int .i64 xk3.Layer]) rfl rfl rfl (V.loadEl (off := 0) (Ag.args _ _ _) (hv_g_Blocked.flat hxk3) rfl rfl rfl Try.isAgg28 Try.sizeOf28 rfl rfl) (fun a hf => ?_)
            refine S.alloc hf hs rfl rfl rfl [.int .i64 0, .int .i64 0, .int .i64 0] rfl Try.zeroValue28 rfl (fun g2 a w hf hs => ?_)
            refine S.val hf hs (v := .int .i64 (k3 : Int)) rfl rfl rfl (V.pure rfl) (fun a hf => ?_)
            refine S.storeBox 0 hf hs rfl rfl [.int .i64 xk3.X, .int .i64 xk3.Y, .int .i64 xk3.Layer] [.int .i64 xk3.X, .int .i64 xk3.Y, .int .i64 xk3.Layer] rfl rfl rfl rfl rfl Try.sizeOf28 rfl rfl rfl rfl (fun a w hf hs => ?_)
            refine R.nil ?_
            refine X.then_ ?_
            refine wp_seq ?_
            refine wp_seq ?_
            refine R.list ?_
            refine S.val hf hs (v := .agg #[.int .i64 g.W, .int .i64 g.H, .int .i64 g.Layers, .slice g_BlockedA g.Blocked.length g_BlockedC]) rfl rfl rfl (V.loadBox 1 rfl rfl rfl Try.isAgg24 Try.sizeOf24 rfl rfl) (fun a hf => ?_)
            refine S.val hf hs (v := .agg #[.int .i64 xk3.X, .int .i64 xk3.Y, .int .i64 xk3.Layer]) rfl rfl rfl (V.loadBox 0 rfl rfl rfl Try.isAgg28 Try.sizeOf28 rfl rfl) (fun a hf => ?_)
            refine S.call hf rfl rfl rfl (call_fn (vs := [.agg #[.int .i64 g.W, .int .i64 g.H, .int .i64 g.Layers, .slice g_BlockedA g.Blocked.length g_BlockedC], .agg #[.int .i64 xk3.X, .int .i64 xk3.Y, .int .i64 xk3.Layer]]) rfl rfl rfl Try.call54) (R_route_isCell g xk3 _ g_BlockedA g_BlockedC ((Ag.args _ _ _).view hv_g_Blocked hs) _ h) (fun v a w' hf hr => ?_)
            obtain ⟨y1, rfl, h2, hs2⟩ := hr
            replace h := h2; replace hs := hs.call hs2; clear h2 hs2
            refine S.val hf hs (v := .bool (!y1)) rfl rfl rfl (V.pure rfl) (fun a hf => ?_)
            refine R.nil ?_
            refine X.then_ ?_
            refine C.cond hf (b := !y1) rfl (fun hc => ?_) (fun hc => ?_)
            · replace h := h.1 hc
              refine wp_seq ?_
              refine R.list ?_
              refine S.val hf hs (v := .int .i64 1) rfl rfl rfl (V.pure rfl) (fun a hf => ?_)
              refine R.nil ?_
              refine X.then_ ?_
              refine wp_ret ?_
              refine X.then_ret ?_
              refine X.blk_ret ?_
              refine X.then_ret ?_
              refine X.then_ret ?_
              refine X.blk_ret ?_
              refine X.then_ret ?_
              exact L.ret hf (run_results1 Try.results22 (ResIs.tmp hf rfl)) ⟨1, rfl, h, hs.nil⟩
            · replace h := h.2 hc
              refine wp_skip ?_
              refine X.then_ ?_
              refine wp_seq ?_
              refine C.cut (J := fun a w => ∃ (c3 : Bool), M_route_CheckGrid_k4 Q next1 c3 ∧ FrOk 65 [(1, .pointer (some ⟨g1, 0, none⟩)), (37, .slice g_BlockedA g.Blocked.length g_BlockedC), (38, .int .i64 (g.Blocked.length : Int)), (39, .int .i64 (k3 : Int)), (63, .bool c3)] a ∧ Sat w0 none_ [hbox g2 28 [.int .i64 xk3.X, .int .i64 xk3.Y, .int .i64 xk3.Layer], hbox g1 24 [.int .i64 g.W, .int .i64 g.H, .int .i64 g.Layers, .slice g_BlockedA g.Blocked.length g_BlockedC]] w) ?_ ?_
              · rintro a w ⟨c3, h, hf, hs⟩
                unfold M_route_CheckGrid_k4 at h
                refine C.cond hf (b := c3) rfl (fun hc => ?_) (fun hc => ?_)
                · replace h := h.1 hc
                  refine wp_seq ?_
                  refine R.list ?_
                  refine S.val hf hs (v := .int .i64 8) rfl rfl rfl (V.pure rfl) (fun a hf => ?_)
                  refine R.nil ?_
                  refine X.then_ ?_
                  refine wp_ret ?_
                  refine X.blk_ret ?_
                  refine X.then_ret ?_
                  refine X.then_ret ?_
                  refine X.blk_ret ?_
                  refine X.then_ret ?_
                  exact L.ret hf (run_results1 Try.results22 (ResIs.tmp hf rfl)) ⟨8, rfl, h, hs.nil⟩
                · replace h := h.2 hc
                  refine wp_skip ?_
                  refine X.blk ?_
                  refine X.then_ ?_
                  refine R.list ?_
                  refine S.val hf hs (v := .int .i64 ((k3 + 1 : Nat) : Int)) rfl rfl rfl (V.incr rfl rfl rfl hltk3 hlenk3) (fun a hf => ?_)
                  refine S.val hf hs (v := .int .i64 ((k3 + 1 : Nat) : Int)) rfl rfl rfl (V.pure rfl) (fun a hf => ?_)
                  refine R.nil ?_
                  refine X.then_ ?_
                  exact ⟨xk3, llk3, rfl, k3 + 1, range_drop hlk3, range_len hkk3, (by rw [hnext1] at h; exact h), ((((hf.nil.cons (hf.get 38 _ rfl)).cons (hf.get 37 _ rfl)).cons (hf.get 1 _ rfl)).cons (hf.get 39 _ rfl)), hs.drop⟩
              · skip
                refine H.start (S := Sat w0 none_ [hbox g2 28 [.int .i64 xk3.X, .int .i64 xk3.Y, .int .i64 xk3.Layer], hbox g1 24 [.int .i64 g.W, .int .i64 g.H, .int .i64 g.Layers, .slice g_BlockedA g.Blocked.length g_BlockedC]]) mo ?_
                replace hs := hs.drew
                refine H.val hf hs (v := .int .i64 (k3 : Int)) (i := 0) rfl rfl rfl rfl (by kernel_rfl) (by kernel_rfl) (by kernel_rfl) (V.pure rfl) (fun a hf => ?_)
                refine H.val hf hs (v := .bool (decide ((k3 : Int) > 0))) (i := 1) rfl rfl rfl rfl (by kernel_rfl) (by kernel_rfl) (by kernel_rfl) (V.pure rfl) (fun a hf => ?_)
                refine H.split hf hs (b := decide ((k3 : Int) > 0)) (i := 2) rfl rfl rfl rfl (by kernel_rfl) (by kernel_rfl) (by kernel_rfl) (V.pure rfl) (fun hc a hf => ?_) (fun hc a hf => ?_)
                · replace h := h.1 hc
                  refine H.val hf hs (v := .agg #[.int .i64 g.W, .int .i64 g.H, .int .i64 g.Layers, .slice g_BlockedA g.Blocked.length g_BlockedC]) (i := 3) rfl rfl rfl rfl (by kernel_rfl) (by kernel_rfl) (by kernel_rfl) (V.loadBox 1 rfl rfl rfl Try.isAgg24 Try.sizeOf24 rfl rfl) (fun a hf => ?_)
                  refine H.val hf hs (v := .agg #[.int .i64 xk3.X, .int .i64 xk3.Y, .int .i64 xk3.Layer]) (i := 4) rfl rfl rfl rfl (by kernel_rfl) (by kernel_rfl) (by kernel_rfl) (V.loadBox 0 rfl rfl rfl Try.isAgg28 Try.sizeOf28 rfl rfl) (fun a hf => ?_)
                  refine H.val hf hs (v := .agg #[.int .i64 g.W, .int .i64 g.H, .int .i64 g.Layers, .slice g_BlockedA g.Blocked.length g_BlockedC]) (i := 6) rfl rfl rfl rfl (by kernel_rfl) (by kernel_rfl) (by kernel_rfl) (V.loadBox 1 rfl rfl rfl Try.isAgg24 Try.sizeOf24 rfl rfl) (fun a hf => ?_)
                  refine H.val hf hs (v := .pointer (some ⟨g1, 3, none⟩)) (i := 7) rfl rfl rfl rfl (by kernel_rfl) (by kernel_rfl) (by kernel_rfl) (V.fieldBox rfl rfl Try.runUnderlying24 rfl Try.sizeOf22 rfl rfl) (fun a hf => ?_)
                  refine H.val hf hs (v := .slice g_BlockedA g.Blocked.length g_BlockedC) (i := 8) rfl rfl rfl rfl (by kernel_rfl) (by kernel_rfl) (by kernel_rfl) (V.loadBox 1 rfl rfl rfl Try.isAgg22 Try.sizeOf22 rfl rfl) (fun a hf => ?_)
                  refine H.val hf hs (v := .int .i64 (k3 : Int)) (i := 9) rfl rfl rfl rfl (by kernel_rfl) (by kernel_rfl) (by kernel_rfl) (V.pure rfl) (fun a hf => ?_)
                  refine H.val hf hs (v := .int .i64 (w64 ((k3 : Int) - 1))) (i := 10) rfl rfl rfl rfl (by kernel_rfl) (by kernel_rfl) (by kernel_rfl) (V.pure rfl) (fun a hf => ?_)
                  obtain ⟨h0x1, x1, hx1, h⟩ := h
                  refine H.val hf hs (v := elemPtr g_BlockedA ((w64 ((k3 : Int) - 1)).toNat * 3)) (i := 11) rfl rfl rfl rfl (by kernel_rfl) (by kernel_rfl) (by kernel_rfl) (V.index rfl rfl rfl Try.runUnderlying22 Try.sizeOf28 (hv_g_Blocked.some_ (lt_of_get hx1)) h0x1 (lt_of_get hx1) rfl) (fun a hf => ?_)
                  refine H.val hf hs (v := .agg #[.int .i64 x1.X, .int .i64 x1.Y, .int .i64 x1.Layer]) (i := 12) rfl rfl rfl rfl (by kernel_rfl) (by kernel_rfl) (by kernel_rfl) (V.loadEl (off := 0) (Ag.args _ _ _) (hv_g_Blocked.flat hx1) rfl rfl rfl Try.isAgg28 Try.sizeOf28 rfl rfl) (fun a hf => ?_)
                  refine H.one (i := 5) rfl (by kernel_rfl) ?_
                  refine S.call hf rfl rfl rfl (call_fn (vs := [.agg #[.int .i64 g.W, .int .i64 g.H, .int .i64 g.Layers, .slice g_BlockedA g.Blocked.length g_BlockedC], .agg #[.int .i64 xk3.X, .int .i64 xk3.Y, .int .i64 xk3.Layer]]) rfl rfl rfl Try.call36) (R_route_number g xk3 _ g_BlockedA g_BlockedC ((Ag.args _ _ _).view hv_g_Blocked hs) _ h) (fun v a w' hf hr => ?_)
                  obtain ⟨y2, rfl, h2, hs2⟩ := hr
                  replace h := h2; replace hs := hs.call hs2; clear h2 hs2
                  refine R.nil ?_
                  refine X.then_ ?_
                  refine ⟨hs, ?_⟩
                  refine H.one (i := 13) rfl (by kernel_rfl) ?_
                  refine S.call hf rfl rfl rfl (call_fn (vs := [.agg #[.int .i64 g.W, .int .i64 g.H, .int .i64 g.Layers, .slice g_BlockedA g.Blocked.length g_BlockedC], .agg #[.int .i64 x1.X, .int .i64 x1.Y, .int .i64 x1.Layer]]) rfl rfl rfl Try.call36) (R_route_number g x1 _ g_BlockedA g_BlockedC ((Ag.args _ _ _).view hv_g_Blocked hs) _ h) (fun v a w' hf hr => ?_)
                  obtain ⟨y3, rfl, h2, hs2⟩ := hr
                  replace h := h2; replace hs := hs.call hs2; clear h2 hs2
                  refine R.nil ?_
                  refine X.then_ ?_
                  refine ⟨hs, ?_⟩
                  refine H.val hf hs (v := .bool (decide (y2 ≤ y3))) (i := 14) rfl rfl rfl rfl (by kernel_rfl) (by kernel_rfl) (by kernel_rfl) (V.pure rfl) (fun a hf => ?_)
                  refine H.val hf hs (v := .bool (decide (y2 ≤ y3))) (i := 15) rfl rfl rfl rfl (by kernel_rfl) (by kernel_rfl) (by kernel_rfl) (V.pure rfl) (fun a hf => ?_)
                  refine H.done (by kernel_rfl) ?_
                  refine X.then_ ?_
                  exact ⟨(decide (y2 ≤ y3)), h, (((((hf.nil.cons (hf.get 63 _ rfl)).cons (hf.get 39 _ rfl)).cons (hf.get 38 _ rfl)).cons (hf.get 37 _ rfl)).cons (hf.get 1 _ rfl)), hs⟩
                · replace h := h.2 hc
                  refine H.skip hf hs (i := 3) rfl rfl rfl rfl (by kernel_rfl) (by kernel_rfl) (by kernel_rfl) (fun a hf => ?_)
                  refine H.skip hf hs (i := 4) rfl rfl rfl rfl (by kernel_rfl) (by kernel_rfl) (by kernel_rfl) (fun a hf => ?_)
                  refine H.skip hf hs (i := 6) rfl rfl rfl rfl (by kernel_rfl) (by kernel_rfl) (by kernel_rfl) (fun a hf => ?_)
                  refine H.skip hf hs (i := 7) rfl rfl rfl rfl (by kernel_rfl) (by kernel_rfl) (by kernel_rfl) (fun a hf => ?_)
                  refine H.skip hf hs (i := 8) rfl rfl rfl rfl (by kernel_rfl) (by kernel_rfl) (by kernel_rfl) (fun a hf => ?_)
                  refine H.skip hf hs (i := 9) rfl rfl rfl rfl (by kernel_rfl) (by kernel_rfl) (by kernel_rfl) (fun a hf => ?_)
                  refine H.skip hf hs (i := 10) rfl rfl rfl rfl (by kernel_rfl) (by kernel_rfl) (by kernel_rfl) (fun a hf => ?_)
                  refine H.skip hf hs (i := 11) rfl rfl rfl rfl (by kernel_rfl) (by kernel_rfl) (by kernel_rfl) (fun a hf => ?_)
                  refine H.skip hf hs (i := 12) rfl rfl rfl rfl (by kernel_rfl) (by kernel_rfl) (by kernel_rfl) (fun a hf => ?_)
                  refine H.one (i := 5) rfl (by kernel_rfl) ?_
                  refine S.skip hf rfl rfl rfl (fun a hf => ?_)
                  refine R.nil ?_
                  refine X.then_ ?_
                  refine ⟨hs, ?_⟩
                  refine H.one (i := 13) rfl (by kernel_rfl) ?_
                  refine S.skip hf rfl rfl rfl (fun a hf => ?_)
                  refine R.nil ?_
                  refine X.then_ ?_
                  refine ⟨hs, ?_⟩
                  refine H.skip hf hs (i := 14) rfl rfl rfl rfl (by kernel_rfl) (by kernel_rfl) (by kernel_rfl) (fun a hf => ?_)
                  refine H.val hf hs (v := .bool false) (i := 15) rfl rfl rfl rfl (by kernel_rfl) (by kernel_rfl) (by kernel_rfl) (V.pure rfl) (fun a hf => ?_)
                  refine H.done (by kernel_rfl) ?_
                  refine X.then_ ?_
                  exact ⟨false, h, (((((hf.nil.cons (hf.get 63 _ rfl)).cons (hf.get 39 _ rfl)).cons (hf.get 38 _ rfl)).cons (hf.get 37 _ rfl)).cons (hf.get 1 _ rfl)), hs⟩
      · skip
        refine R.list ?_
        refine S.val hf hs (v := .pointer (some ⟨g1, 0, none⟩)) rfl rfl rfl (V.fieldBox rfl rfl Try.runUnderlying24 rfl Try.sizeOf3 rfl rfl) (fun a hf => ?_)
        refine S.val hf hs (v := .int .i64 g.W) rfl rfl rfl (V.loadBox 0 rfl rfl rfl Try.isAgg3 Try.sizeOf3 rfl rfl) (fun a hf => ?_)
        refine S.val hf hs (v := .pointer (some ⟨g1, 1, none⟩)) rfl rfl rfl (V.fieldBox rfl rfl Try.runUnderlying24 rfl Try.sizeOf3 rfl rfl) (fun a hf => ?_)
        refine S.val hf hs (v := .int .i64 g.H) rfl rfl rfl (V.loadBox 0 rfl rfl rfl Try.isAgg3 Try.sizeOf3 rfl rfl) (fun a hf => ?_)
        refine S.val hf hs (v := .int .i64 (w64 (g.W * g.H))) rfl rfl rfl (V.pure rfl) (fun a hf => ?_)
        refine S.val hf hs (v := .pointer (some ⟨g1, 2, none⟩)) rfl rfl rfl (V.fieldBox rfl rfl Try.runUnderlying24 rfl Try.sizeOf3 rfl rfl) (fun a hf => ?_)
        refine S.val hf hs (v := .int .i64 g.Layers) rfl rfl rfl (V.loadBox 0 rfl rfl rfl Try.isAgg3 Try.sizeOf3 rfl rfl) (fun a hf => ?_)
        refine S.val hf hs (v := .int .i64 (w64 ((w64 (g.W * g.H)) * g.Layers))) rfl rfl rfl (V.pure rfl) (fun a hf => ?_)
        refine S.val hf hs (v := .bool (decide (w64 ((w64 (g.W * g.H)) * g.Layers) > 40000))) rfl rfl rfl (V.pure rfl) (fun a hf => ?_)
        refine S.split hf hs (b := decide (w64 ((w64 (g.W * g.H)) * g.Layers) > 40000)) rfl rfl rfl (V.pure rfl) (fun hc a hf => ?_) (fun hc a hf => ?_)
        · replace h := h.1 hc
          refine S.skip hf rfl rfl rfl (fun a hf => ?_)
          refine S.skip hf rfl rfl rfl (fun a hf => ?_)
          refine S.skip hf rfl rfl rfl (fun a hf => ?_)
          refine S.skip hf rfl rfl rfl (fun a hf => ?_)
          refine S.val hf hs (v := .bool true) rfl rfl rfl (V.pure rfl) (fun a hf => ?_)
          refine R.nil ?_
          refine X.then_ ?_
          exact ⟨true, h, ((hf.nil.cons (hf.get 35 _ rfl)).cons (hf.get 1 _ rfl)), hs⟩
        · replace h := h.2 hc
          refine S.val hf hs (v := .pointer (some ⟨g1, 3, none⟩)) rfl rfl rfl (V.fieldBox rfl rfl Try.runUnderlying24 rfl Try.sizeOf22 rfl rfl) (fun a hf => ?_)
          refine S.val hf hs (v := .slice g_BlockedA g.Blocked.length g_BlockedC) rfl rfl rfl (V.loadBox 0 rfl rfl rfl Try.isAgg22 Try.sizeOf22 rfl rfl) (fun a hf => ?_)
          refine S.val hf hs (v := .int .i64 (g.Blocked.length : Int)) rfl rfl rfl (V.len rfl rfl Try.runUnderlying22) (fun a hf => ?_)
          refine S.val hf hs (v := .bool (decide ((g.Blocked.length : Int) > 40000))) rfl rfl rfl (V.pure rfl) (fun a hf => ?_)
          refine S.val hf hs (v := .bool (decide ((g.Blocked.length : Int) > 40000))) rfl rfl rfl (V.pure rfl) (fun a hf => ?_)
          refine R.nil ?_
          refine X.then_ ?_
          exact ⟨(decide ((g.Blocked.length : Int) > 40000)), h, ((hf.nil.cons (hf.get 35 _ rfl)).cons (hf.get 1 _ rfl)), hs⟩
  · skip
    refine R.list ?_
    refine S.val hf hs (v := .pointer (some ⟨g1, 0, none⟩)) rfl rfl rfl (V.fieldBox rfl rfl Try.runUnderlying24 rfl Try.sizeOf3 rfl rfl) (fun a hf => ?_)
    refine S.val hf hs (v := .int .i64 g.W) rfl rfl rfl (V.loadBox 0 rfl rfl rfl Try.isAgg3 Try.sizeOf3 rfl rfl) (fun a hf => ?_)
    refine S.callv hf rfl rfl rfl (call_fn (vs := [.int .i64 g.W, .int .i64 1, .int .i64 200]) rfl rfl rfl Try.call40) (C_route_within g.W 1 200 _ ) (fun a w hf hs' => ?_)
    replace hs := hs.call hs'; clear hs'
    refine S.val hf hs (v := .bool (!(within g.W 1 200))) rfl rfl rfl (V.pure rfl) (fun a hf => ?_)
    refine S.split hf hs (b := !(within g.W 1 200)) rfl rfl rfl (V.pure rfl) (fun hc a hf => ?_) (fun hc a hf => ?_)
    · replace h := h.1 hc
      refine S.skip hf rfl rfl rfl (fun a hf => ?_)
      refine S.skip hf rfl rfl rfl (fun a hf => ?_)
      refine S.skip hf rfl rfl rfl (fun a hf => ?_)
      refine S.skip hf rfl rfl rfl (fun a hf => ?_)
      refine S.val hf hs (v := .bool true) rfl rfl rfl (V.pure rfl) (fun a hf => ?_)
      refine S.val hf hs (v := .bool true) rfl rfl rfl (V.pure rfl) (fun a hf => ?_)
      refine S.skip hf rfl rfl rfl (fun a hf => ?_)
      refine S.skip hf rfl rfl rfl (fun a hf => ?_)
      refine S.skip hf rfl rfl rfl (fun a hf => ?_)
      refine S.skip hf rfl rfl rfl (fun a hf => ?_)
      refine S.val hf hs (v := .bool true) rfl rfl rfl (V.pure rfl) (fun a hf => ?_)
      refine R.nil ?_
      refine X.then_ ?_
      exact ⟨true, h, ((hf.nil.cons (hf.get 20 _ rfl)).cons (hf.get 1 _ rfl)), hs⟩
    · replace h := h.2 hc
      refine S.val hf hs (v := .pointer (some ⟨g1, 1, none⟩)) rfl rfl rfl (V.fieldBox rfl rfl Try.runUnderlying24 rfl Try.sizeOf3 rfl rfl) (fun a hf => ?_)
      refine S.val hf hs (v := .int .i64 g.H) rfl rfl rfl (V.loadBox 0 rfl rfl rfl Try.isAgg3 Try.sizeOf3 rfl rfl) (fun a hf => ?_)
      refine S.callv hf rfl rfl rfl (call_fn (vs := [.int .i64 g.H, .int .i64 1, .int .i64 200]) rfl rfl rfl Try.call40) (C_route_within g.H 1 200 _ ) (fun a w hf hs' => ?_)
      replace hs := hs.call hs'; clear hs'
      refine S.val hf hs (v := .bool (!(within g.H 1 200))) rfl rfl rfl (V.pure rfl) (fun a hf => ?_)
      refine S.val hf hs (v := .bool (!(within g.H 1 200))) rfl rfl rfl (V.pure rfl) (fun a hf => ?_)
      refine S.split hf hs (b := !(within g.H 1 200)) rfl rfl rfl (V.pure rfl) (fun hc a hf => ?_) (fun hc a hf => ?_)
      · replace h := h.1 hc
        refine S.skip hf rfl rfl rfl (fun a hf => ?_)
        refine S.skip hf rfl rfl rfl (fun a hf => ?_)
        refine S.skip hf rfl rfl rfl (fun a hf => ?_)
        refine S.skip hf rfl rfl rfl (fun a hf => ?_)
        refine S.val hf hs (v := .bool true) rfl rfl rfl (V.pure rfl) (fun a hf => ?_)
        refine R.nil ?_
        refine X.then_ ?_
        exact ⟨true, h, ((hf.nil.cons (hf.get 20 _ rfl)).cons (hf.get 1 _ rfl)), hs⟩
      · replace h := h.2 hc
        refine S.val hf hs (v := .pointer (some ⟨g1, 2, none⟩)) rfl rfl rfl (V.fieldBox rfl rfl Try.runUnderlying24 rfl Try.sizeOf3 rfl rfl) (fun a hf => ?_)
        refine S.val hf hs (v := .int .i64 g.Layers) rfl rfl rfl (V.loadBox 0 rfl rfl rfl Try.isAgg3 Try.sizeOf3 rfl rfl) (fun a hf => ?_)
        refine S.callv hf rfl rfl rfl (call_fn (vs := [.int .i64 g.Layers, .int .i64 1, .int .i64 8]) rfl rfl rfl Try.call40) (C_route_within g.Layers 1 8 _ ) (fun a w hf hs' => ?_)
        replace hs := hs.call hs'; clear hs'
        refine S.val hf hs (v := .bool (!(within g.Layers 1 8))) rfl rfl rfl (V.pure rfl) (fun a hf => ?_)
        refine S.val hf hs (v := .bool (!(within g.Layers 1 8))) rfl rfl rfl (V.pure rfl) (fun a hf => ?_)
        refine R.nil ?_
        refine X.then_ ?_
        exact ⟨(!(within g.Layers 1 8)), h, ((hf.nil.cons (hf.get 20 _ rfl)).cons (hf.get 1 _ rfl)), hs⟩

set_option linter.unusedVariables false
def M_ref7_before (a_ : Cell) (b : Cell) (Q : Bool → Prop) : Prop :=
  cnd (a_.Layer != b.Layer) (Q (decide (a_.Layer < b.Layer))) (cnd (a_.Y != b.Y) (Q (decide (a_.Y < b.Y))) (Q (decide (a_.X < b.X))))
set_option maxHeartbeats 1000000 in
theorem R_ref7_before (a_ : Cell) (b : Cell) (w0 : World)  (Q : Bool → Prop) (h : M_ref7_before a_ b Q) :
    Ret Try.prog 56 #[.agg #[.int .i64 a_.X, .int .i64 a_.Y, .int .i64 a_.Layer], .agg #[.int .i64 b.X, .int .i64 b.Y, .int .i64 b.Layer]] w0 fun v w' => ∃ (r0 : Bool), v = .bool r0 ∧ Q r0 ∧ Sat w0 none_ [] w' := by
  refine fn_enter Try.func56 rfl Try.ntmps56 rfl (fs := [(0, .agg #[.int .i64 a_.X, .int .i64 a_.Y, .int .i64 a_.Layer]), (1, .agg #[.int .i64 b.X, .int .i64 b.Y, .int .i64 b.Layer])]) rfl (fun a hf => ?_)
  have hs := Sat.start w0 none_
  unfold M_ref7_before at h
  refine wp_seq ?_
  refine R.list ?_
  refine S.box hf hs rfl rfl rfl [.int .i64 a_.X, .int .i64 a_.Y, .int .i64 a_.Layer] rfl rfl rfl (fun g1 a w hf hs => ?_)
  refine S.box hf hs rfl rfl rfl [.int .i64 b.X, .int .i64 b.Y, .int .i64 b.Layer] rfl rfl rfl (fun g2 a w hf hs => ?_)
  refine S.val hf hs (v := .bool false) rfl rfl rfl (V.pure rfl) (fun a hf => ?_)
  refine R.nil ?_
  refine X.then_ ?_
  refine wp_seq ?_
  refine wp_seq ?_
  refine R.list ?_
  refine S.val hf hs (v := .pointer (some ⟨g1, 2, none⟩)) rfl rfl rfl (V.fieldBox rfl rfl Try.runUnderlying28 rfl Try.sizeOf3 rfl rfl) (fun a hf => ?_)
  refine S.val hf hs (v := .int .i64 a_.Layer) rfl rfl rfl (V.loadBox 1 rfl rfl rfl Try.isAgg3 Try.sizeOf3 rfl rfl) (fun a hf => ?_)
  refine S.val hf hs (v := .pointer (some ⟨g2, 2, none⟩)) rfl rfl rfl (V.fieldBox rfl rfl Try.runUnderlying28 rfl Try.sizeOf3 rfl rfl) (fun a hf => ?_)
  refine S.val hf hs (v := .int .i64 b.Layer) rfl rfl rfl (V.loadBox 0 rfl rfl rfl Try.isAgg3 Try.sizeOf3 rfl rfl) (fun a hf => ?_)
  refine S.val hf hs (v := .bool (a_.Layer != b.Layer)) rfl rfl rfl (V.pure rfl) (fun a hf => ?_)
  refine R.nil ?_
  refine X.then_ ?_
  refine C.cond hf (b := a_.Layer != b.Layer) rfl (fun hc => ?_) (fun hc => ?_)
  · replace h := h.1 hc
    refine wp_seq ?_
    refine R.list ?_
    refine S.val hf hs (v := .pointer (some ⟨g1, 2, none⟩)) rfl rfl rfl (V.fieldBox rfl rfl Try.runUnderlying28 rfl Try.sizeOf3 rfl rfl) (fun a hf => ?_)
    refine S.val hf hs (v := .int .i64 a_.Layer) rfl rfl rfl (V.loadBox 1 rfl rfl rfl Try.isAgg3 Try.sizeOf3 rfl rfl) (fun a hf => ?_)
    refine S.val hf hs (v := .pointer (some ⟨g2, 2, none⟩)) rfl rfl rfl (V.fieldBox rfl rfl Try.runUnderlying28 rfl Try.sizeOf3 rfl rfl) (fun a hf => ?_)
    refine S.val hf hs (v := .int .i64 b.Layer) rfl rfl rfl (V.loadBox 0 rfl rfl rfl Try.isAgg3 Try.sizeOf3 rfl rfl) (fun a hf => ?_)
    refine S.val hf hs (v := .bool (decide (a_.Layer < b.Layer))) rfl rfl rfl (V.pure rfl) (fun a hf => ?_)
    refine S.val hf hs (v := .bool (decide (a_.Layer < b.Layer))) rfl rfl rfl (V.pure rfl) (fun a hf => ?_)
    refine R.nil ?_
    refine X.then_ ?_
    refine wp_ret ?_
    refine X.then_ret ?_
    exact L.ret hf (run_results1 Try.results56 (ResIs.tmp hf rfl)) ⟨(decide (a_.Layer < b.Layer)), rfl, h, hs.nil⟩
  · replace h := h.2 hc
    refine wp_skip ?_
    refine X.then_ ?_
    refine wp_seq ?_
    refine wp_seq ?_
    refine R.list ?_
    refine S.val hf hs (v := .pointer (some ⟨g1, 1, none⟩)) rfl rfl rfl (V.fieldBox rfl rfl Try.runUnderlying28 rfl Try.sizeOf3 rfl rfl) (fun a hf => ?_)
    refine S.val hf hs (v := .int .i64 a_.Y) rfl rfl rfl (V.loadBox 1 rfl rfl rfl Try.isAgg3 Try.sizeOf3 rfl rfl) (fun a hf => ?_)
    refine S.val hf hs (v := .pointer (some ⟨g2, 1, none⟩)) rfl rfl rfl (V.fieldBox rfl rfl Try.runUnderlying28 rfl Try.sizeOf3 rfl rfl) (fun a hf => ?_)
    refine S.val hf hs (v := .int .i64 b.Y) rfl rfl rfl (V.loadBox 0 rfl rfl rfl Try.isAgg3 Try.sizeOf3 rfl rfl) (fun a hf => ?_)
    refine S.val hf hs (v := .bool (a_.Y != b.Y)) rfl rfl rfl (V.pure rfl) (fun a hf => ?_)
    refine R.nil ?_
    refine X.then_ ?_
    refine C.cond hf (b := a_.Y != b.Y) rfl (fun hc => ?_) (fun hc => ?_)
    · replace h := h.1 hc
      refine wp_seq ?_
      refine R.list ?_
      refine S.val hf hs (v := .pointer (some ⟨g1, 1, none⟩)) rfl rfl rfl (V.fieldBox rfl rfl Try.runUnderlying28 rfl Try.sizeOf3 rfl rfl) (fun a hf => ?_)
      refine S.val hf hs (v := .int .i64 a_.Y) rfl rfl rfl (V.loadBox 1 rfl rfl rfl Try.isAgg3 Try.sizeOf3 rfl rfl) (fun a hf => ?_)
      refine S.val hf hs (v := .pointer (some ⟨g2, 1, none⟩)) rfl rfl rfl (V.fieldBox rfl rfl Try.runUnderlying28 rfl Try.sizeOf3 rfl rfl) (fun a hf => ?_)
      refine S.val hf hs (v := .int .i64 b.Y) rfl rfl rfl (V.loadBox 0 rfl rfl rfl Try.isAgg3 Try.sizeOf3 rfl rfl) (fun a hf => ?_)
      refine S.val hf hs (v := .bool (decide (a_.Y < b.Y))) rfl rfl rfl (V.pure rfl) (fun a hf => ?_)
      refine S.val hf hs (v := .bool (decide (a_.Y < b.Y))) rfl rfl rfl (V.pure rfl) (fun a hf => ?_)
      refine R.nil ?_
      refine X.then_ ?_
      refine wp_ret ?_
      refine X.then_ret ?_
      exact L.ret hf (run_results1 Try.results56 (ResIs.tmp hf rfl)) ⟨(decide (a_.Y < b.Y)), rfl, h, hs.nil⟩
    · replace h := h.2 hc
      refine wp_skip ?_
      refine X.then_ ?_
      refine wp_seq ?_
      refine R.list ?_
      refine S.val hf hs (v := .pointer (some ⟨g1, 0, none⟩)) rfl rfl rfl (V.fieldBox rfl rfl Try.runUnderlying28 rfl Try.sizeOf3 rfl rfl) (fun a hf => ?_)
      refine S.val hf hs (v := .int .i64 a_.X) rfl rfl rfl (V.loadBox 1 rfl rfl rfl Try.isAgg3 Try.sizeOf3 rfl rfl) (fun a hf => ?_)
      refine S.val hf hs (v := .pointer (some ⟨g2, 0, none⟩)) rfl rfl rfl (V.fieldBox rfl rfl Try.runUnderlying28 rfl Try.sizeOf3 rfl rfl) (fun a hf => ?_)
      refine S.val hf hs (v := .int .i64 b.X) rfl rfl rfl (V.loadBox 0 rfl rfl rfl Try.isAgg3 Try.sizeOf3 rfl rfl) (fun a hf => ?_)
      refine S.val hf hs (v := .bool (decide (a_.X < b.X))) rfl rfl rfl (V.pure rfl) (fun a hf => ?_)
      refine S.val hf hs (v := .bool (decide (a_.X < b.X))) rfl rfl rfl (V.pure rfl) (fun a hf => ?_)
      refine R.nil ?_
      refine X.then_ ?_
      refine wp_ret ?_
      exact L.ret hf (run_results1 Try.results56 (ResIs.tmp hf rfl)) ⟨(decide (a_.X < b.X)), rfl, h, hs.nil⟩

set_option linter.unusedVariables false
def M_ref7_CheckGrid_k4 (Q : Int → Prop) (next1 : Prop) (c3 : Bool) : Prop :=
  cnd c3 (Q 8) (next1)
def M_ref7_CheckGrid_L1 (g : Grid) (Q : Int → Prop) (k3 : Nat) (xk3 : Cell)  (next1 : Prop) : Prop :=
  M_ref7_isCell g xk3 fun y1 => cnd (!y1) (Q 1) (cnd (decide ((k3 : Int) > 0)) (idx g.Blocked (w64 ((k3 : Int) - 1)) fun x1 => M_ref7_before x1 xk3 fun y2 => M_ref7_CheckGrid_k4 Q next1 (!y2)) (M_ref7_CheckGrid_k4 Q next1 false))
def M_ref7_CheckGrid_k2 (g : Grid) (Q : Int → Prop) (c2 : Bool) : Prop :=
  cnd c2 (Q 2) (forIn' (fun k x (s : Unit) next => M_ref7_CheckGrid_L1 g Q k x (next ())) (fun (s : Unit) => Q 0) g.Blocked 0 ())
def M_ref7_CheckGrid_k1 (g : Grid) (Q : Int → Prop) (c1 : Bool) : Prop :=
  cnd c1 (Q 1) (cnd (decide (w64 ((w64 (g.W * g.H)) * g.Layers) > 40000)) (M_ref7_CheckGrid_k2 g Q true) (M_ref7_CheckGrid_k2 g Q (decide ((g.Blocked.length : Int) > 40000))))
def M_ref7_CheckGrid (g : Grid) (Q : Int → Prop) : Prop :=
  cnd (!(within g.W 1 200)) (M_ref7_CheckGrid_k1 g Q true) (cnd (!(within g.H 1 200)) (M_ref7_CheckGrid_k1 g Q true) (M_ref7_CheckGrid_k1 g Q (!(within g.Layers 1 8))))
set_option maxHeartbeats 1000000 in
theorem R_ref7_CheckGrid (g : Grid) (w0 : World) (g_BlockedA : Option Addr) (g_BlockedC : Nat) (hv_g_Blocked : View w0 (old w0 none_) g_BlockedA g_BlockedC g.Blocked) (Q : Int → Prop) (h : M_ref7_CheckGrid g Q) :
    Ret Try.prog 23 #[.agg #[.int .i64 g.W, .int .i64 g.H, .int .i64 g.Layers, .slice g_BlockedA g.Blocked.length g_BlockedC]] w0 fun v w' => ∃ (r0 : Int), v = .int .i64 r0 ∧ Q r0 ∧ Sat w0 none_ [] w' := by
  refine fn_enter Try.func23 rfl Try.ntmps23 rfl (fs := [(0, .agg #[.int .i64 g.W, .int .i64 g.H, .int .i64 g.Layers, .slice g_BlockedA g.Blocked.length g_BlockedC])]) rfl (fun a hf => ?_)
  have hs := Sat.start w0 none_
  unfold M_ref7_CheckGrid at h
  refine wp_seq ?_
  refine R.list ?_
  refine S.box hf hs rfl rfl rfl [.int .i64 g.W, .int .i64 g.H, .int .i64 g.Layers, .slice g_BlockedA g.Blocked.length g_BlockedC] rfl rfl rfl (fun g1 a w hf hs => ?_)
  refine S.val hf hs (v := .int .i64 0) rfl rfl rfl (V.pure rfl) (fun a hf => ?_)
  refine R.nil ?_
  refine X.then_ ?_
  refine wp_seq ?_
  refine wp_seq ?_
  refine C.cut (J := fun a w => ∃ (c1 : Bool), M_ref7_CheckGrid_k1 g Q c1 ∧ FrOk 62 [(1, .pointer (some ⟨g1, 0, none⟩)), (20, .bool c1)] a ∧ Sat w0 none_ [hbox g1 24 [.int .i64 g.W, .int .i64 g.H, .int .i64 g.Layers, .slice g_BlockedA g.Blocked.length g_BlockedC]] w) ?_ ?_
  · rintro a w ⟨c1, h, hf, hs⟩
    unfold M_ref7_CheckGrid_k1 at h
    refine C.cond hf (b := c1) rfl (fun hc => ?_) (fun hc => ?_)
    · replace h := h.1 hc
      refine wp_seq ?_
      refine R.list ?_
      refine S.val hf hs (v := .int .i64 1) rfl rfl rfl (V.pure rfl) (fun a hf => ?_)
      refine R.nil ?_
      refine X.then_ ?_
      refine wp_ret ?_
      refine X.then_ret ?_
      exact L.ret hf (run_results1 Try.results23 (ResIs.tmp hf rfl)) ⟨1, rfl, h, hs.nil⟩
    · replace h := h.2 hc
      refine wp_skip ?_
      refine X.then_ ?_
      refine wp_seq ?_
      refine wp_seq ?_
      refine C.cut (J := fun a w => ∃ (c2 : Bool), M_ref7_CheckGrid_k2 g Q c2 ∧ FrOk 62 [(1, .pointer (some ⟨g1, 0, none⟩)), (35, .bool c2)] a ∧ Sat w0 none_ [hbox g1 24 [.int .i64 g.W, .int .i64 g.H, .int .i64 g.Layers, .slice g_BlockedA g.Blocked.length g_BlockedC]] w) ?_ ?_
      · rintro a w ⟨c2, h, hf, hs⟩
        unfold M_ref7_CheckGrid_k2 at h
        refine C.cond hf (b := c2) rfl (fun hc => ?_) (fun hc => ?_)
        · replace h := h.1 hc
          refine wp_seq ?_
          refine R.list ?_
          refine S.val hf hs (v := .int .i64 2) rfl rfl rfl (V.pure rfl) (fun a hf => ?_)
          refine R.nil ?_
          refine X.then_ ?_
          refine wp_ret ?_
          refine X.then_ret ?_
          exact L.ret hf (run_results1 Try.results23 (ResIs.tmp hf rfl)) ⟨2, rfl, h, hs.nil⟩
        · replace h := h.2 hc
          refine wp_skip ?_
          refine X.then_ ?_
          refine wp_seq ?_
          refine wp_seq ?_
          refine R.list ?_
          refine S.val hf hs (v := .pointer (some ⟨g1, 3, none⟩)) rfl rfl rfl (V.fieldBox rfl rfl Try.runUnderlying24 rfl Try.sizeOf22 rfl rfl) (fun a hf => ?_)
          refine S.val hf hs (v := .slice g_BlockedA g.Blocked.length g_BlockedC) rfl rfl rfl (V.loadBox 0 rfl rfl rfl Try.isAgg22 Try.sizeOf22 rfl rfl) (fun a hf => ?_)
          refine S.val hf hs (v := .int .i64 (g.Blocked.length : Int)) rfl rfl rfl (V.len rfl rfl Try.runUnderlying22) (fun a hf => ?_)
          refine S.val hf hs (v := .int .i64 0) rfl rfl rfl (V.pure rfl) (fun a hf => ?_)
          refine R.nil ?_
          refine X.then_ ?_
          refine wp_block ?_
          have hlenk3 := hv_g_Blocked.len64
          refine C.range (fun (ll : List Cell) a w => ∃ (k3 : Nat) , g.Blocked.drop k3 = ll ∧ k3 + ll.length = g.Blocked.length ∧ forIn' (fun k x (s : Unit) next => M_ref7_CheckGrid_L1 g Q k x (next ())) (fun (s : Unit) => Q 0) ll k3 () ∧ FrOk 62 [(39, .int .i64 (k3 : Int)), (1, .pointer (some ⟨g1, 0, none⟩)), (37, .slice g_BlockedA g.Blocked.length g_BlockedC), (38, .int .i64 (g.Blocked.length : Int))] a ∧ Sat w0 none_ [hbox g1 24 [.int .i64 g.W, .int .i64 g.H, .int .i64 g.Layers, .slice g_BlockedA g.Blocked.length g_BlockedC]] w) g.Blocked ⟨0, rfl, Nat.zero_add _, h, ((((hf.nil.cons (hf.get 38 _ rfl)).cons (hf.get 37 _ rfl)).cons (hf.get 1 _ rfl)).cons (hf.get 39 _ rfl)), hs⟩ ?_
          clear h hf hs
          rintro llk3 a w ⟨k3, hlk3, hkk3, h, hf, hs⟩
          cases llk3 with
          | nil =>
            have hc := range_done hkk3
            replace h : Q 0 := h
            refine wp_seq ?_
            refine R.list ?_
            refine S.val hf hs (v := .bool false) rfl rfl rfl (V.cmp false rfl rfl rfl rfl hc) (fun a hf => ?_)
            refine R.nil ?_
            refine X.then_ ?_
            refine wp_seq ?_
            refine C.no hf rfl ?_
            refine wp_exit ?_
            refine X.then_exit ?_
            refine X.then_exit ?_
            refine X.blk_exit ?_
            refine X.then_ ?_
            refine wp_seq ?_
            refine R.list ?_
            refine S.val hf hs (v := .int .i64 0) rfl rfl rfl (V.pure rfl) (fun a hf => ?_)
            refine R.nil ?_
            refine X.then_ ?_
            refine wp_ret ?_
            exact L.ret hf (run_results1 Try.results23 (ResIs.tmp hf rfl)) ⟨0, rfl, h, hs.nil⟩
          | cons xk3 llk3 =>
            have hltk3 := range_lt hkk3; have hc := range_go hkk3; have hxk3 := range_get hlk3
            obtain ⟨next1, hnext1⟩ : ∃ X : Prop, X = (forIn' (fun k x (s : Unit) next => M_ref7_CheckGrid_L1 g Q k x (next ())) (fun (s : Unit) => Q 0) llk3 (k3 + 1) ()) := ⟨_, rfl⟩
            replace h : M_ref7_CheckGrid_L1 g Q k3 xk3  next1 := by rw [hnext1]; exact h
            unfold M_ref7_CheckGrid_L1 at h
            refine wp_seq ?_
            refine R.list ?_
            refine S.val hf hs (v := .bool true) rfl rfl rfl (V.cmp true rfl rfl rfl rfl hc) (fun a hf => ?_)
            refine R.nil ?_
            refine X.then_ ?_
            refine wp_seq ?_
            refine C.yes hf rfl ?_
            refine wp_skip ?_
            refine X.then_ ?_
            refine wp_seq ?_
            refine wp_block ?_
            refine wp_seq ?_
            refine R.list ?_
            refine S.val hf hs (v := .int .i64 (k3 : Int)) rfl rfl rfl (V.pure rfl) (fun a hf => ?_)
            refine S.val hf hs (v := elemPtr g_BlockedA (k3 * 3)) rfl rfl rfl (V.index rfl rfl rfl Try.runUnderlying22 Try.sizeOf28 (hv_g_Blocked.some_ (lt_of_get hxk3)) (Int.natCast_nonneg _) (lt_of_get hxk3) rfl) (fun a hf => ?_)
            refine S.val hf hs (v := .agg #[.int .i64 xk3.X, .int .i64 xk3.Y, .int .i64 xk3.Layer]) rfl rfl rfl (V.loadEl (off := 0) (Ag.args _ _ _) (hv_g_Blocked.flat hxk3) rfl rfl rfl Try.isAgg28 Try.sizeOf28 rfl rfl) (fun a hf => ?_)
            refine S.alloc hf hs rfl rfl rfl [.int .i64 0, .int .i64 0, .int .i64 0] rfl Try.zeroValue28 rfl (fun g2 a w hf hs => ?_)
            refine S.val hf hs (v := .int .i64 (k3 : Int)) rfl rfl rfl (V.pure rfl) (fun a hf => ?_)
            refine S.storeBox 0 hf hs rfl rfl [.int .i64 xk3.X, .int .i64 xk3.Y, .int .i64 xk3.Layer] [.int .i64 xk3.X, .int .i64 xk3.Y, .int .i64 xk3.Layer] rfl rfl rfl rfl rfl Try.sizeOf28 rfl rfl rfl rfl (fun a w hf hs => ?_)
            refine R.nil ?_
            refine X.then_ ?_
            refine wp_seq ?_
            refine wp_seq ?_
            refine R.list ?_
            refine S.val hf hs (v := .agg #[.int .i64 g.W, .int .i64 g.H, .int .i64 g.Layers, .slice g_BlockedA g.Blocked.length g_BlockedC]) rfl rfl rfl (V.loadBox 1 rfl rfl rfl Try.isAgg24 Try.sizeOf24 rfl rfl) (fun a hf => ?_)
            refine S.val hf hs (v := .agg #[.int .i64 xk3.X, .int .i64 xk3.Y, .int .i64 xk3.Layer]) rfl rfl rfl (V.loadBox 0 rfl rfl rfl Try.isAgg28 Try.sizeOf28 rfl rfl) (fun a hf => ?_)
            refine S.call hf rfl rfl rfl (call_fn (vs := [.agg #[.int .i64 g.W, .int .i64 g.H, .int .i64 g.Layers, .slice g_BlockedA g.Blocked.length g_BlockedC], .agg #[.int .i64 xk3.X, .int .i64 xk3.Y, .int .i64 xk3.Layer]]) rfl rfl rfl Try.call55) (R_ref7_isCell g xk3 _ g_BlockedA g_BlockedC ((Ag.args _ _ _).view hv_g_Blocked hs) _ h) (fun v a w' hf hr => ?_)
            obtain ⟨y1, rfl, h2, hs2⟩ := hr
            replace h := h2; replace hs := hs.call hs2; clear h2 hs2
            refine S.val hf hs (v := .bool (!y1)) rfl rfl rfl (V.pure rfl) (fun a hf => ?_)
            refine R.nil ?_
            refine X.then_ ?_
            refine C.cond hf (b := !y1) rfl (fun hc => ?_) (fun hc => ?_)
            · replace h := h.1 hc
              refine wp_seq ?_
              refine R.list ?_
              refine S.val hf hs (v := .int .i64 1) rfl rfl rfl (V.pure rfl) (fun a hf => ?_)
              refine R.nil ?_
              refine X.then_ ?_
              refine wp_ret ?_
              refine X.then_ret ?_
              refine X.blk_ret ?_
              refine X.then_ret ?_
              refine X.then_ret ?_
              refine X.blk_ret ?_
              refine X.then_ret ?_
              exact L.ret hf (run_results1 Try.results23 (ResIs.tmp hf rfl)) ⟨1, rfl, h, hs.nil⟩
            · replace h := h.2 hc
              refine wp_skip ?_
              refine X.then_ ?_
              refine wp_seq ?_
              refine C.cut (J := fun a w => ∃ (c3 : Bool), M_ref7_CheckGrid_k4 Q next1 c3 ∧ FrOk 62 [(1, .pointer (some ⟨g1, 0, none⟩)), (37, .slice g_BlockedA g.Blocked.length g_BlockedC), (38, .int .i64 (g.Blocked.length : Int)), (39, .int .i64 (k3 : Int)), (60, .bool c3)] a ∧ Sat w0 none_ [hbox g2 28 [.int .i64 xk3.X, .int .i64 xk3.Y, .int .i64 xk3.Layer], hbox g1 24 [.int .i64 g.W, .int .i64 g.H, .int .i64 g.Layers, .slice g_BlockedA g.Blocked.length g_BlockedC]] w) ?_ ?_
              · rintro a w ⟨c3, h, hf, hs⟩
                unfold M_ref7_CheckGrid_k4 at h
                refine C.cond hf (b := c3) rfl (fun hc => ?_) (fun hc => ?_)
                · replace h := h.1 hc
                  refine wp_seq ?_
                  refine R.list ?_
                  refine S.val hf hs (v := .int .i64 8) rfl rfl rfl (V.pure rfl) (fun a hf => ?_)
                  refine R.nil ?_
                  refine X.then_ ?_
                  refine wp_ret ?_
                  refine X.blk_ret ?_
                  refine X.then_ret ?_
                  refine X.then_ret ?_
                  refine X.blk_ret ?_
                  refine X.then_ret ?_
                  exact L.ret hf (run_results1 Try.results23 (ResIs.tmp hf rfl)) ⟨8, rfl, h, hs.nil⟩
                · replace h := h.2 hc
                  refine wp_skip ?_
                  refine X.blk ?_
                  refine X.then_ ?_
                  refine R.list ?_
                  refine S.val hf hs (v := .int .i64 ((k3 + 1 : Nat) : Int)) rfl rfl rfl (V.incr rfl rfl rfl hltk3 hlenk3) (fun a hf => ?_)
                  refine S.val hf hs (v := .int .i64 ((k3 + 1 : Nat) : Int)) rfl rfl rfl (V.pure rfl) (fun a hf => ?_)
                  refine R.nil ?_
                  refine X.then_ ?_
                  exact ⟨xk3, llk3, rfl, k3 + 1, range_drop hlk3, range_len hkk3, (by rw [hnext1] at h; exact h), ((((hf.nil.cons (hf.get 38 _ rfl)).cons (hf.get 37 _ rfl)).cons (hf.get 1 _ rfl)).cons (hf.get 39 _ rfl)), hs.drop⟩
              · skip
                refine H.start (S := Sat w0 none_ [hbox g2 28 [.int .i64 xk3.X, .int .i64 xk3.Y, .int .i64 xk3.Layer], hbox g1 24 [.int .i64 g.W, .int .i64 g.H, .int .i64 g.Layers, .slice g_BlockedA g.Blocked.length g_BlockedC]]) mo ?_
                replace hs := hs.drew
                refine H.val hf hs (v := .int .i64 (k3 : Int)) (i := 0) rfl rfl rfl rfl (by kernel_rfl) (by kernel_rfl) (by kernel_rfl) (V.pure rfl) (fun a hf => ?_)
                refine H.val hf hs (v := .bool (decide ((k3 : Int) > 0))) (i := 1) rfl rfl rfl rfl (by kernel_rfl) (by kernel_rfl) (by kernel_rfl) (V.pure rfl) (fun a hf => ?_)
                refine H.split hf hs (b := decide ((k3 : Int) > 0)) (i := 2) rfl rfl rfl rfl (by kernel_rfl) (by kernel_rfl) (by kernel_rfl) (V.pure rfl) (fun hc a hf => ?_) (fun hc a hf => ?_)
                · replace h := h.1 hc
                  refine H.val hf hs (v := .pointer (some ⟨g1, 3, none⟩)) (i := 3) rfl rfl rfl rfl (by kernel_rfl) (by kernel_rfl) (by kernel_rfl) (V.fieldBox rfl rfl Try.runUnderlying24 rfl Try.sizeOf22 rfl rfl) (fun a hf => ?_)
                  refine H.val hf hs (v := .slice g_BlockedA g.Blocked.length g_BlockedC) (i := 4) rfl rfl rfl rfl (by kernel_rfl) (by kernel_rfl) (by kernel_rfl) (V.loadBox 1 rfl rfl rfl Try.isAgg22 Try.sizeOf22 rfl rfl) (fun a hf => ?_)
                  refine H.val hf hs (v := .int .i64 (k3 : Int)) (i := 5) rfl rfl rfl rfl (by kernel_rfl) (by kernel_rfl) (by kernel_rfl) (V.pure rfl) (fun a hf => ?_)
                  refine H.val hf hs (v := .int .i64 (w64 ((k3 : Int) - 1))) (i := 6) rfl rfl rfl rfl (by kernel_rfl) (by kernel_rfl) (by kernel_rfl) (V.pure rfl) (fun a hf => ?_)
                  obtain ⟨h0x1, x1, hx1, h⟩ := h
                  refine H.val hf hs (v := elemPtr g_BlockedA ((w64 ((k3 : Int) - 1)).toNat * 3)) (i := 7) rfl rfl rfl rfl (by kernel_rfl) (by kernel_rfl) (by kernel_rfl) (V.index rfl rfl rfl Try.runUnderlying22 Try.sizeOf28 (hv_g_Blocked.some_ (lt_of_get hx1)) h0x1 (lt_of_get hx1) rfl) (fun a hf => ?_)
                  refine H.val hf hs (v := .agg #[.int .i64 x1.X, .int .i64 x1.Y, .int .i64 x1.Layer]) (i := 8) rfl rfl rfl rfl (by kernel_rfl) (by kernel_rfl) (by kernel_rfl) (V.loadEl (off := 0) (Ag.args _ _ _) (hv_g_Blocked.flat hx1) rfl rfl rfl Try.isAgg28 Try.sizeOf28 rfl rfl) (fun a hf => ?_)
                  refine H.val hf hs (v := .agg #[.int .i64 xk3.X, .int .i64 xk3.Y, .int .i64 xk3.Layer]) (i := 9) rfl rfl rfl rfl (by kernel_rfl) (by kernel_rfl) (by kernel_rfl) (V.loadBox 0 rfl rfl rfl Try.isAgg28 Try.sizeOf28 rfl rfl) (fun a hf => ?_)
                  refine H.one (i := 10) rfl (by kernel_rfl) ?_
                  refine S.call hf rfl rfl rfl (call_fn (vs := [.agg #[.int .i64 x1.X, .int .i64 x1.Y, .int .i64 x1.Layer], .agg #[.int .i64 xk3.X, .int .i64 xk3.Y, .int .i64 xk3.Layer]]) rfl rfl rfl Try.call56) (R_ref7_before x1 xk3 _  _ h) (fun v a w' hf hr => ?_)
                  obtain ⟨y2, rfl, h2, hs2⟩ := hr
                  replace h := h2; replace hs := hs.call hs2; clear h2 hs2
                  refine R.nil ?_
                  refine X.then_ ?_
                  refine ⟨hs, ?_⟩
                  refine H.val hf hs (v := .bool (!y2)) (i := 11) rfl rfl rfl rfl (by kernel_rfl) (by kernel_rfl) (by kernel_rfl) (V.pure rfl) (fun a hf => ?_)
                  refine H.val hf hs (v := .bool (!y2)) (i := 12) rfl rfl rfl rfl (by kernel_rfl) (by kernel_rfl) (by kernel_rfl) (V.pure rfl) (fun a hf => ?_)
                  refine H.done (by kernel_rfl) ?_
                  refine X.then_ ?_
                  exact ⟨(!y2), h, (((((hf.nil.cons (hf.get 60 _ rfl)).cons (hf.get 39 _ rfl)).cons (hf.get 38 _ rfl)).cons (hf.get 37 _ rfl)).cons (hf.get 1 _ rfl)), hs⟩
                · replace h := h.2 hc
                  refine H.skip hf hs (i := 3) rfl rfl rfl rfl (by kernel_rfl) (by kernel_rfl) (by kernel_rfl) (fun a hf => ?_)
                  refine H.skip hf hs (i := 4) rfl rfl rfl rfl (by kernel_rfl) (by kernel_rfl) (by kernel_rfl) (fun a hf => ?_)
                  refine H.skip hf hs (i := 5) rfl rfl rfl rfl (by kernel_rfl) (by kernel_rfl) (by kernel_rfl) (fun a hf => ?_)
                  refine H.skip hf hs (i := 6) rfl rfl rfl rfl (by kernel_rfl) (by kernel_rfl) (by kernel_rfl) (fun a hf => ?_)
                  refine H.skip hf hs (i := 7) rfl rfl rfl rfl (by kernel_rfl) (by kernel_rfl) (by kernel_rfl) (fun a hf => ?_)
                  refine H.skip hf hs (i := 8) rfl rfl rfl rfl (by kernel_rfl) (by kernel_rfl) (by kernel_rfl) (fun a hf => ?_)
                  refine H.skip hf hs (i := 9) rfl rfl rfl rfl (by kernel_rfl) (by kernel_rfl) (by kernel_rfl) (fun a hf => ?_)
                  refine H.one (i := 10) rfl (by kernel_rfl) ?_
                  refine S.skip hf rfl rfl rfl (fun a hf => ?_)
                  refine R.nil ?_
                  refine X.then_ ?_
                  refine ⟨hs, ?_⟩
                  refine H.skip hf hs (i := 11) rfl rfl rfl rfl (by kernel_rfl) (by kernel_rfl) (by kernel_rfl) (fun a hf => ?_)
                  refine H.val hf hs (v := .bool false) (i := 12) rfl rfl rfl rfl (by kernel_rfl) (by kernel_rfl) (by kernel_rfl) (V.pure rfl) (fun a hf => ?_)
                  refine H.done (by kernel_rfl) ?_
                  refine X.then_ ?_
                  exact ⟨false, h, (((((hf.nil.cons (hf.get 60 _ rfl)).cons (hf.get 39 _ rfl)).cons (hf.get 38 _ rfl)).cons (hf.get 37 _ rfl)).cons (hf.get 1 _ rfl)), hs⟩
      · skip
        refine R.list ?_
        refine S.val hf hs (v := .pointer (some ⟨g1, 0, none⟩)) rfl rfl rfl (V.fieldBox rfl rfl Try.runUnderlying24 rfl Try.sizeOf3 rfl rfl) (fun a hf => ?_)
        refine S.val hf hs (v := .int .i64 g.W) rfl rfl rfl (V.loadBox 0 rfl rfl rfl Try.isAgg3 Try.sizeOf3 rfl rfl) (fun a hf => ?_)
        refine S.val hf hs (v := .pointer (some ⟨g1, 1, none⟩)) rfl rfl rfl (V.fieldBox rfl rfl Try.runUnderlying24 rfl Try.sizeOf3 rfl rfl) (fun a hf => ?_)
        refine S.val hf hs (v := .int .i64 g.H) rfl rfl rfl (V.loadBox 0 rfl rfl rfl Try.isAgg3 Try.sizeOf3 rfl rfl) (fun a hf => ?_)
        refine S.val hf hs (v := .int .i64 (w64 (g.W * g.H))) rfl rfl rfl (V.pure rfl) (fun a hf => ?_)
        refine S.val hf hs (v := .pointer (some ⟨g1, 2, none⟩)) rfl rfl rfl (V.fieldBox rfl rfl Try.runUnderlying24 rfl Try.sizeOf3 rfl rfl) (fun a hf => ?_)
        refine S.val hf hs (v := .int .i64 g.Layers) rfl rfl rfl (V.loadBox 0 rfl rfl rfl Try.isAgg3 Try.sizeOf3 rfl rfl) (fun a hf => ?_)
        refine S.val hf hs (v := .int .i64 (w64 ((w64 (g.W * g.H)) * g.Layers))) rfl rfl rfl (V.pure rfl) (fun a hf => ?_)
        refine S.val hf hs (v := .bool (decide (w64 ((w64 (g.W * g.H)) * g.Layers) > 40000))) rfl rfl rfl (V.pure rfl) (fun a hf => ?_)
        refine S.split hf hs (b := decide (w64 ((w64 (g.W * g.H)) * g.Layers) > 40000)) rfl rfl rfl (V.pure rfl) (fun hc a hf => ?_) (fun hc a hf => ?_)
        · replace h := h.1 hc
          refine S.skip hf rfl rfl rfl (fun a hf => ?_)
          refine S.skip hf rfl rfl rfl (fun a hf => ?_)
          refine S.skip hf rfl rfl rfl (fun a hf => ?_)
          refine S.skip hf rfl rfl rfl (fun a hf => ?_)
          refine S.val hf hs (v := .bool true) rfl rfl rfl (V.pure rfl) (fun a hf => ?_)
          refine R.nil ?_
          refine X.then_ ?_
          exact ⟨true, h, ((hf.nil.cons (hf.get 35 _ rfl)).cons (hf.get 1 _ rfl)), hs⟩
        · replace h := h.2 hc
          refine S.val hf hs (v := .pointer (some ⟨g1, 3, none⟩)) rfl rfl rfl (V.fieldBox rfl rfl Try.runUnderlying24 rfl Try.sizeOf22 rfl rfl) (fun a hf => ?_)
          refine S.val hf hs (v := .slice g_BlockedA g.Blocked.length g_BlockedC) rfl rfl rfl (V.loadBox 0 rfl rfl rfl Try.isAgg22 Try.sizeOf22 rfl rfl) (fun a hf => ?_)
          refine S.val hf hs (v := .int .i64 (g.Blocked.length : Int)) rfl rfl rfl (V.len rfl rfl Try.runUnderlying22) (fun a hf => ?_)
          refine S.val hf hs (v := .bool (decide ((g.Blocked.length : Int) > 40000))) rfl rfl rfl (V.pure rfl) (fun a hf => ?_)
          refine S.val hf hs (v := .bool (decide ((g.Blocked.length : Int) > 40000))) rfl rfl rfl (V.pure rfl) (fun a hf => ?_)
          refine R.nil ?_
          refine X.then_ ?_
          exact ⟨(decide ((g.Blocked.length : Int) > 40000)), h, ((hf.nil.cons (hf.get 35 _ rfl)).cons (hf.get 1 _ rfl)), hs⟩
  · skip
    refine R.list ?_
    refine S.val hf hs (v := .pointer (some ⟨g1, 0, none⟩)) rfl rfl rfl (V.fieldBox rfl rfl Try.runUnderlying24 rfl Try.sizeOf3 rfl rfl) (fun a hf => ?_)
    refine S.val hf hs (v := .int .i64 g.W) rfl rfl rfl (V.loadBox 0 rfl rfl rfl Try.isAgg3 Try.sizeOf3 rfl rfl) (fun a hf => ?_)
    refine S.callv hf rfl rfl rfl (call_fn (vs := [.int .i64 g.W, .int .i64 1, .int .i64 200]) rfl rfl rfl Try.call43) (C_ref7_within g.W 1 200 _ ) (fun a w hf hs' => ?_)
    replace hs := hs.call hs'; clear hs'
    refine S.val hf hs (v := .bool (!(within g.W 1 200))) rfl rfl rfl (V.pure rfl) (fun a hf => ?_)
    refine S.split hf hs (b := !(within g.W 1 200)) rfl rfl rfl (V.pure rfl) (fun hc a hf => ?_) (fun hc a hf => ?_)
    · replace h := h.1 hc
      refine S.skip hf rfl rfl rfl (fun a hf => ?_)
      refine S.skip hf rfl rfl rfl (fun a hf => ?_)
      refine S.skip hf rfl rfl rfl (fun a hf => ?_)
      refine S.skip hf rfl rfl rfl (fun a hf => ?_)
      refine S.val hf hs (v := .bool true) rfl rfl rfl (V.pure rfl) (fun a hf => ?_)
      refine S.val hf hs (v := .bool true) rfl rfl rfl (V.pure rfl) (fun a hf => ?_)
      refine S.skip hf rfl rfl rfl (fun a hf => ?_)
      refine S.skip hf rfl rfl rfl (fun a hf => ?_)
      refine S.skip hf rfl rfl rfl (fun a hf => ?_)
      refine S.skip hf rfl rfl rfl (fun a hf => ?_)
      refine S.val hf hs (v := .bool true) rfl rfl rfl (V.pure rfl) (fun a hf => ?_)
      refine R.nil ?_
      refine X.then_ ?_
      exact ⟨true, h, ((hf.nil.cons (hf.get 20 _ rfl)).cons (hf.get 1 _ rfl)), hs⟩
    · replace h := h.2 hc
      refine S.val hf hs (v := .pointer (some ⟨g1, 1, none⟩)) rfl rfl rfl (V.fieldBox rfl rfl Try.runUnderlying24 rfl Try.sizeOf3 rfl rfl) (fun a hf => ?_)
      refine S.val hf hs (v := .int .i64 g.H) rfl rfl rfl (V.loadBox 0 rfl rfl rfl Try.isAgg3 Try.sizeOf3 rfl rfl) (fun a hf => ?_)
      refine S.callv hf rfl rfl rfl (call_fn (vs := [.int .i64 g.H, .int .i64 1, .int .i64 200]) rfl rfl rfl Try.call43) (C_ref7_within g.H 1 200 _ ) (fun a w hf hs' => ?_)
      replace hs := hs.call hs'; clear hs'
      refine S.val hf hs (v := .bool (!(within g.H 1 200))) rfl rfl rfl (V.pure rfl) (fun a hf => ?_)
      refine S.val hf hs (v := .bool (!(within g.H 1 200))) rfl rfl rfl (V.pure rfl) (fun a hf => ?_)
      refine S.split hf hs (b := !(within g.H 1 200)) rfl rfl rfl (V.pure rfl) (fun hc a hf => ?_) (fun hc a hf => ?_)
      · replace h := h.1 hc
        refine S.skip hf rfl rfl rfl (fun a hf => ?_)
        refine S.skip hf rfl rfl rfl (fun a hf => ?_)
        refine S.skip hf rfl rfl rfl (fun a hf => ?_)
        refine S.skip hf rfl rfl rfl (fun a hf => ?_)
        refine S.val hf hs (v := .bool true) rfl rfl rfl (V.pure rfl) (fun a hf => ?_)
        refine R.nil ?_
        refine X.then_ ?_
        exact ⟨true, h, ((hf.nil.cons (hf.get 20 _ rfl)).cons (hf.get 1 _ rfl)), hs⟩
      · replace h := h.2 hc
        refine S.val hf hs (v := .pointer (some ⟨g1, 2, none⟩)) rfl rfl rfl (V.fieldBox rfl rfl Try.runUnderlying24 rfl Try.sizeOf3 rfl rfl) (fun a hf => ?_)
        refine S.val hf hs (v := .int .i64 g.Layers) rfl rfl rfl (V.loadBox 0 rfl rfl rfl Try.isAgg3 Try.sizeOf3 rfl rfl) (fun a hf => ?_)
        refine S.callv hf rfl rfl rfl (call_fn (vs := [.int .i64 g.Layers, .int .i64 1, .int .i64 8]) rfl rfl rfl Try.call43) (C_ref7_within g.Layers 1 8 _ ) (fun a w hf hs' => ?_)
        replace hs := hs.call hs'; clear hs'
        refine S.val hf hs (v := .bool (!(within g.Layers 1 8))) rfl rfl rfl (V.pure rfl) (fun a hf => ?_)
        refine S.val hf hs (v := .bool (!(within g.Layers 1 8))) rfl rfl rfl (V.pure rfl) (fun a hf => ?_)
        refine R.nil ?_
        refine X.then_ ?_
        exact ⟨(!(within g.Layers 1 8)), h, ((hf.nil.cons (hf.get 20 _ rfl)).cons (hf.get 1 _ rfl)), hs⟩

set_option linter.unusedVariables false
def M_route_CheckCosts_k1 (Q : Int → Prop) (c1 : Bool) : Prop :=
  cnd c1 (Q 1) (Q 0)
def M_route_CheckCosts (c : Costs) (Q : Int → Prop) : Prop :=
  cnd (!(within c.Step 1 1000)) (M_route_CheckCosts_k1 Q true) (cnd (!(within c.Via 1 1000)) (M_route_CheckCosts_k1 Q true) (cnd (!(within c.Turn 0 1000)) (M_route_CheckCosts_k1 Q true) (M_route_CheckCosts_k1 Q (!(within c.Against 0 1000)))))
set_option maxHeartbeats 1000000 in
theorem R_route_CheckCosts (c : Costs) (w0 : World)  (Q : Int → Prop) (h : M_route_CheckCosts c Q) :
    Ret Try.prog 24 #[.agg #[.int .i64 c.Step, .int .i64 c.Via, .int .i64 c.Turn, .int .i64 c.Against]] w0 fun v w' => ∃ (r0 : Int), v = .int .i64 r0 ∧ Q r0 ∧ Sat w0 none_ [] w' := by
  refine fn_enter Try.func24 rfl Try.ntmps24 rfl (fs := [(0, .agg #[.int .i64 c.Step, .int .i64 c.Via, .int .i64 c.Turn, .int .i64 c.Against])]) rfl (fun a hf => ?_)
  have hs := Sat.start w0 none_
  unfold M_route_CheckCosts at h
  refine wp_seq ?_
  refine R.list ?_
  refine S.box hf hs rfl rfl rfl [.int .i64 c.Step, .int .i64 c.Via, .int .i64 c.Turn, .int .i64 c.Against] rfl rfl rfl (fun g1 a w hf hs => ?_)
  refine S.val hf hs (v := .int .i64 0) rfl rfl rfl (V.pure rfl) (fun a hf => ?_)
  refine R.nil ?_
  refine X.then_ ?_
  refine wp_seq ?_
  refine wp_seq ?_
  refine C.cut (J := fun a w => ∃ (c1 : Bool), M_route_CheckCosts_k1 Q c1 ∧ FrOk 25 [(24, .bool c1)] a ∧ Sat w0 none_ [hbox g1 26 [.int .i64 c.Step, .int .i64 c.Via, .int .i64 c.Turn, .int .i64 c.Against]] w) ?_ ?_
  · rintro a w ⟨c1, h, hf, hs⟩
    unfold M_route_CheckCosts_k1 at h
    refine C.cond hf (b := c1) rfl (fun hc => ?_) (fun hc => ?_)
    · replace h := h.1 hc
      refine wp_seq ?_
      refine R.list ?_
      refine S.val hf hs (v := .int .i64 1) rfl rfl rfl (V.pure rfl) (fun a hf => ?_)
      refine R.nil ?_
      refine X.then_ ?_
      refine wp_ret ?_
      refine X.then_ret ?_
      exact L.ret hf (run_results1 Try.results24 (ResIs.tmp hf rfl)) ⟨1, rfl, h, hs.nil⟩
    · replace h := h.2 hc
      refine wp_skip ?_
      refine X.then_ ?_
      refine wp_seq ?_
      refine R.list ?_
      refine S.val hf hs (v := .int .i64 0) rfl rfl rfl (V.pure rfl) (fun a hf => ?_)
      refine R.nil ?_
      refine X.then_ ?_
      refine wp_ret ?_
      exact L.ret hf (run_results1 Try.results24 (ResIs.tmp hf rfl)) ⟨0, rfl, h, hs.nil⟩
  · skip
    refine R.list ?_
    refine S.val hf hs (v := .pointer (some ⟨g1, 0, none⟩)) rfl rfl rfl (V.fieldBox rfl rfl Try.runUnderlying26 rfl Try.sizeOf3 rfl rfl) (fun a hf => ?_)
    refine S.val hf hs (v := .int .i64 c.Step) rfl rfl rfl (V.loadBox 0 rfl rfl rfl Try.isAgg3 Try.sizeOf3 rfl rfl) (fun a hf => ?_)
    refine S.callv hf rfl rfl rfl (call_fn (vs := [.int .i64 c.Step, .int .i64 1, .int .i64 1000]) rfl rfl rfl Try.call40) (C_route_within c.Step 1 1000 _ ) (fun a w hf hs' => ?_)
    replace hs := hs.call hs'; clear hs'
    refine S.val hf hs (v := .bool (!(within c.Step 1 1000))) rfl rfl rfl (V.pure rfl) (fun a hf => ?_)
    refine S.split hf hs (b := !(within c.Step 1 1000)) rfl rfl rfl (V.pure rfl) (fun hc a hf => ?_) (fun hc a hf => ?_)
    · replace h := h.1 hc
      refine S.skip hf rfl rfl rfl (fun a hf => ?_)
      refine S.skip hf rfl rfl rfl (fun a hf => ?_)
      refine S.skip hf rfl rfl rfl (fun a hf => ?_)
      refine S.skip hf rfl rfl rfl (fun a hf => ?_)
      refine S.val hf hs (v := .bool true) rfl rfl rfl (V.pure rfl) (fun a hf => ?_)
      refine S.val hf hs (v := .bool true) rfl rfl rfl (V.pure rfl) (fun a hf => ?_)
      refine S.skip hf rfl rfl rfl (fun a hf => ?_)
      refine S.skip hf rfl rfl rfl (fun a hf => ?_)
      refine S.skip hf rfl rfl rfl (fun a hf => ?_)
      refine S.skip hf rfl rfl rfl (fun a hf => ?_)
      refine S.val hf hs (v := .bool true) rfl rfl rfl (V.pure rfl) (fun a hf => ?_)
      refine S.val hf hs (v := .bool true) rfl rfl rfl (V.pure rfl) (fun a hf => ?_)
      refine S.skip hf rfl rfl rfl (fun a hf => ?_)
      refine S.skip hf rfl rfl rfl (fun a hf => ?_)
      refine S.skip hf rfl rfl rfl (fun a hf => ?_)
      refine S.skip hf rfl rfl rfl (fun a hf => ?_)
      refine S.val hf hs (v := .bool true) rfl rfl rfl (V.pure rfl) (fun a hf => ?_)
      refine R.nil ?_
      refine X.then_ ?_
      exact ⟨true, h, (hf.nil.cons (hf.get 24 _ rfl)), hs⟩
    · replace h := h.2 hc
      refine S.val hf hs (v := .pointer (some ⟨g1, 1, none⟩)) rfl rfl rfl (V.fieldBox rfl rfl Try.runUnderlying26 rfl Try.sizeOf3 rfl rfl) (fun a hf => ?_)
      refine S.val hf hs (v := .int .i64 c.Via) rfl rfl rfl (V.loadBox 0 rfl rfl rfl Try.isAgg3 Try.sizeOf3 rfl rfl) (fun a hf => ?_)
      refine S.callv hf rfl rfl rfl (call_fn (vs := [.int .i64 c.Via, .int .i64 1, .int .i64 1000]) rfl rfl rfl Try.call40) (C_route_within c.Via 1 1000 _ ) (fun a w hf hs' => ?_)
      replace hs := hs.call hs'; clear hs'
      refine S.val hf hs (v := .bool (!(within c.Via 1 1000))) rfl rfl rfl (V.pure rfl) (fun a hf => ?_)
      refine S.val hf hs (v := .bool (!(within c.Via 1 1000))) rfl rfl rfl (V.pure rfl) (fun a hf => ?_)
      refine S.split hf hs (b := !(within c.Via 1 1000)) rfl rfl rfl (V.pure rfl) (fun hc a hf => ?_) (fun hc a hf => ?_)
      · replace h := h.1 hc
        refine S.skip hf rfl rfl rfl (fun a hf => ?_)
        refine S.skip hf rfl rfl rfl (fun a hf => ?_)
        refine S.skip hf rfl rfl rfl (fun a hf => ?_)
        refine S.skip hf rfl rfl rfl (fun a hf => ?_)
        refine S.val hf hs (v := .bool true) rfl rfl rfl (V.pure rfl) (fun a hf => ?_)
        refine S.val hf hs (v := .bool true) rfl rfl rfl (V.pure rfl) (fun a hf => ?_)
        refine S.skip hf rfl rfl rfl (fun a hf => ?_)
        refine S.skip hf rfl rfl rfl (fun a hf => ?_)
        refine S.skip hf rfl rfl rfl (fun a hf => ?_)
        refine S.skip hf rfl rfl rfl (fun a hf => ?_)
        refine S.val hf hs (v := .bool true) rfl rfl rfl (V.pure rfl) (fun a hf => ?_)
        refine R.nil ?_
        refine X.then_ ?_
        exact ⟨true, h, (hf.nil.cons (hf.get 24 _ rfl)), hs⟩
      · replace h := h.2 hc
        refine S.val hf hs (v := .pointer (some ⟨g1, 2, none⟩)) rfl rfl rfl (V.fieldBox rfl rfl Try.runUnderlying26 rfl Try.sizeOf3 rfl rfl) (fun a hf => ?_)
        refine S.val hf hs (v := .int .i64 c.Turn) rfl rfl rfl (V.loadBox 0 rfl rfl rfl Try.isAgg3 Try.sizeOf3 rfl rfl) (fun a hf => ?_)
        refine S.callv hf rfl rfl rfl (call_fn (vs := [.int .i64 c.Turn, .int .i64 0, .int .i64 1000]) rfl rfl rfl Try.call40) (C_route_within c.Turn 0 1000 _ ) (fun a w hf hs' => ?_)
        replace hs := hs.call hs'; clear hs'
        refine S.val hf hs (v := .bool (!(within c.Turn 0 1000))) rfl rfl rfl (V.pure rfl) (fun a hf => ?_)
        refine S.val hf hs (v := .bool (!(within c.Turn 0 1000))) rfl rfl rfl (V.pure rfl) (fun a hf => ?_)
        refine S.split hf hs (b := !(within c.Turn 0 1000)) rfl rfl rfl (V.pure rfl) (fun hc a hf => ?_) (fun hc a hf => ?_)
        · replace h := h.1 hc
          refine S.skip hf rfl rfl rfl (fun a hf => ?_)
          refine S.skip hf rfl rfl rfl (fun a hf => ?_)
          refine S.skip hf rfl rfl rfl (fun a hf => ?_)
          refine S.skip hf rfl rfl rfl (fun a hf => ?_)
          refine S.val hf hs (v := .bool true) rfl rfl rfl (V.pure rfl) (fun a hf => ?_)
          refine R.nil ?_
          refine X.then_ ?_
          exact ⟨true, h, (hf.nil.cons (hf.get 24 _ rfl)), hs⟩
        · replace h := h.2 hc
          refine S.val hf hs (v := .pointer (some ⟨g1, 3, none⟩)) rfl rfl rfl (V.fieldBox rfl rfl Try.runUnderlying26 rfl Try.sizeOf3 rfl rfl) (fun a hf => ?_)
          refine S.val hf hs (v := .int .i64 c.Against) rfl rfl rfl (V.loadBox 0 rfl rfl rfl Try.isAgg3 Try.sizeOf3 rfl rfl) (fun a hf => ?_)
          refine S.callv hf rfl rfl rfl (call_fn (vs := [.int .i64 c.Against, .int .i64 0, .int .i64 1000]) rfl rfl rfl Try.call40) (C_route_within c.Against 0 1000 _ ) (fun a w hf hs' => ?_)
          replace hs := hs.call hs'; clear hs'
          refine S.val hf hs (v := .bool (!(within c.Against 0 1000))) rfl rfl rfl (V.pure rfl) (fun a hf => ?_)
          refine S.val hf hs (v := .bool (!(within c.Against 0 1000))) rfl rfl rfl (V.pure rfl) (fun a hf => ?_)
          refine R.nil ?_
          refine X.then_ ?_
          exact ⟨(!(within c.Against 0 1000)), h, (hf.nil.cons (hf.get 24 _ rfl)), hs⟩

set_option linter.unusedVariables false
def M_ref7_CheckCosts_k1 (Q : Int → Prop) (c1 : Bool) : Prop :=
  cnd c1 (Q 1) (Q 0)
def M_ref7_CheckCosts (c : Costs) (Q : Int → Prop) : Prop :=
  cnd (!(within c.Step 1 1000)) (M_ref7_CheckCosts_k1 Q true) (cnd (!(within c.Via 1 1000)) (M_ref7_CheckCosts_k1 Q true) (cnd (!(within c.Turn 0 1000)) (M_ref7_CheckCosts_k1 Q true) (M_ref7_CheckCosts_k1 Q (!(within c.Against 0 1000)))))
set_option maxHeartbeats 1000000 in
theorem R_ref7_CheckCosts (c : Costs) (w0 : World)  (Q : Int → Prop) (h : M_ref7_CheckCosts c Q) :
    Ret Try.prog 25 #[.agg #[.int .i64 c.Step, .int .i64 c.Via, .int .i64 c.Turn, .int .i64 c.Against]] w0 fun v w' => ∃ (r0 : Int), v = .int .i64 r0 ∧ Q r0 ∧ Sat w0 none_ [] w' := by
  refine fn_enter Try.func25 rfl Try.ntmps25 rfl (fs := [(0, .agg #[.int .i64 c.Step, .int .i64 c.Via, .int .i64 c.Turn, .int .i64 c.Against])]) rfl (fun a hf => ?_)
  have hs := Sat.start w0 none_
  unfold M_ref7_CheckCosts at h
  refine wp_seq ?_
  refine R.list ?_
  refine S.box hf hs rfl rfl rfl [.int .i64 c.Step, .int .i64 c.Via, .int .i64 c.Turn, .int .i64 c.Against] rfl rfl rfl (fun g1 a w hf hs => ?_)
  refine S.val hf hs (v := .int .i64 0) rfl rfl rfl (V.pure rfl) (fun a hf => ?_)
  refine R.nil ?_
  refine X.then_ ?_
  refine wp_seq ?_
  refine wp_seq ?_
  refine C.cut (J := fun a w => ∃ (c1 : Bool), M_ref7_CheckCosts_k1 Q c1 ∧ FrOk 25 [(24, .bool c1)] a ∧ Sat w0 none_ [hbox g1 26 [.int .i64 c.Step, .int .i64 c.Via, .int .i64 c.Turn, .int .i64 c.Against]] w) ?_ ?_
  · rintro a w ⟨c1, h, hf, hs⟩
    unfold M_ref7_CheckCosts_k1 at h
    refine C.cond hf (b := c1) rfl (fun hc => ?_) (fun hc => ?_)
    · replace h := h.1 hc
      refine wp_seq ?_
      refine R.list ?_
      refine S.val hf hs (v := .int .i64 1) rfl rfl rfl (V.pure rfl) (fun a hf => ?_)
      refine R.nil ?_
      refine X.then_ ?_
      refine wp_ret ?_
      refine X.then_ret ?_
      exact L.ret hf (run_results1 Try.results25 (ResIs.tmp hf rfl)) ⟨1, rfl, h, hs.nil⟩
    · replace h := h.2 hc
      refine wp_skip ?_
      refine X.then_ ?_
      refine wp_seq ?_
      refine R.list ?_
      refine S.val hf hs (v := .int .i64 0) rfl rfl rfl (V.pure rfl) (fun a hf => ?_)
      refine R.nil ?_
      refine X.then_ ?_
      refine wp_ret ?_
      exact L.ret hf (run_results1 Try.results25 (ResIs.tmp hf rfl)) ⟨0, rfl, h, hs.nil⟩
  · skip
    refine R.list ?_
    refine S.val hf hs (v := .pointer (some ⟨g1, 0, none⟩)) rfl rfl rfl (V.fieldBox rfl rfl Try.runUnderlying26 rfl Try.sizeOf3 rfl rfl) (fun a hf => ?_)
    refine S.val hf hs (v := .int .i64 c.Step) rfl rfl rfl (V.loadBox 0 rfl rfl rfl Try.isAgg3 Try.sizeOf3 rfl rfl) (fun a hf => ?_)
    refine S.callv hf rfl rfl rfl (call_fn (vs := [.int .i64 c.Step, .int .i64 1, .int .i64 1000]) rfl rfl rfl Try.call43) (C_ref7_within c.Step 1 1000 _ ) (fun a w hf hs' => ?_)
    replace hs := hs.call hs'; clear hs'
    refine S.val hf hs (v := .bool (!(within c.Step 1 1000))) rfl rfl rfl (V.pure rfl) (fun a hf => ?_)
    refine S.split hf hs (b := !(within c.Step 1 1000)) rfl rfl rfl (V.pure rfl) (fun hc a hf => ?_) (fun hc a hf => ?_)
    · replace h := h.1 hc
      refine S.skip hf rfl rfl rfl (fun a hf => ?_)
      refine S.skip hf rfl rfl rfl (fun a hf => ?_)
      refine S.skip hf rfl rfl rfl (fun a hf => ?_)
      refine S.skip hf rfl rfl rfl (fun a hf => ?_)
      refine S.val hf hs (v := .bool true) rfl rfl rfl (V.pure rfl) (fun a hf => ?_)
      refine S.val hf hs (v := .bool true) rfl rfl rfl (V.pure rfl) (fun a hf => ?_)
      refine S.skip hf rfl rfl rfl (fun a hf => ?_)
      refine S.skip hf rfl rfl rfl (fun a hf => ?_)
      refine S.skip hf rfl rfl rfl (fun a hf => ?_)
      refine S.skip hf rfl rfl rfl (fun a hf => ?_)
      refine S.val hf hs (v := .bool true) rfl rfl rfl (V.pure rfl) (fun a hf => ?_)
      refine S.val hf hs (v := .bool true) rfl rfl rfl (V.pure rfl) (fun a hf => ?_)
      refine S.skip hf rfl rfl rfl (fun a hf => ?_)
      refine S.skip hf rfl rfl rfl (fun a hf => ?_)
      refine S.skip hf rfl rfl rfl (fun a hf => ?_)
      refine S.skip hf rfl rfl rfl (fun a hf => ?_)
      refine S.val hf hs (v := .bool true) rfl rfl rfl (V.pure rfl) (fun a hf => ?_)
      refine R.nil ?_
      refine X.then_ ?_
      exact ⟨true, h, (hf.nil.cons (hf.get 24 _ rfl)), hs⟩
    · replace h := h.2 hc
      refine S.val hf hs (v := .pointer (some ⟨g1, 1, none⟩)) rfl rfl rfl (V.fieldBox rfl rfl Try.runUnderlying26 rfl Try.sizeOf3 rfl rfl) (fun a hf => ?_)
      refine S.val hf hs (v := .int .i64 c.Via) rfl rfl rfl (V.loadBox 0 rfl rfl rfl Try.isAgg3 Try.sizeOf3 rfl rfl) (fun a hf => ?_)
      refine S.callv hf rfl rfl rfl (call_fn (vs := [.int .i64 c.Via, .int .i64 1, .int .i64 1000]) rfl rfl rfl Try.call43) (C_ref7_within c.Via 1 1000 _ ) (fun a w hf hs' => ?_)
      replace hs := hs.call hs'; clear hs'
      refine S.val hf hs (v := .bool (!(within c.Via 1 1000))) rfl rfl rfl (V.pure rfl) (fun a hf => ?_)
      refine S.val hf hs (v := .bool (!(within c.Via 1 1000))) rfl rfl rfl (V.pure rfl) (fun a hf => ?_)
      refine S.split hf hs (b := !(within c.Via 1 1000)) rfl rfl rfl (V.pure rfl) (fun hc a hf => ?_) (fun hc a hf => ?_)
      · replace h := h.1 hc
        refine S.skip hf rfl rfl rfl (fun a hf => ?_)
        refine S.skip hf rfl rfl rfl (fun a hf => ?_)
        refine S.skip hf rfl rfl rfl (fun a hf => ?_)
        refine S.skip hf rfl rfl rfl (fun a hf => ?_)
        refine S.val hf hs (v := .bool true) rfl rfl rfl (V.pure rfl) (fun a hf => ?_)
        refine S.val hf hs (v := .bool true) rfl rfl rfl (V.pure rfl) (fun a hf => ?_)
        refine S.skip hf rfl rfl rfl (fun a hf => ?_)
        refine S.skip hf rfl rfl rfl (fun a hf => ?_)
        refine S.skip hf rfl rfl rfl (fun a hf => ?_)
        refine S.skip hf rfl rfl rfl (fun a hf => ?_)
        refine S.val hf hs (v := .bool true) rfl rfl rfl (V.pure rfl) (fun a hf => ?_)
        refine R.nil ?_
        refine X.then_ ?_
        exact ⟨true, h, (hf.nil.cons (hf.get 24 _ rfl)), hs⟩
      · replace h := h.2 hc
        refine S.val hf hs (v := .pointer (some ⟨g1, 2, none⟩)) rfl rfl rfl (V.fieldBox rfl rfl Try.runUnderlying26 rfl Try.sizeOf3 rfl rfl) (fun a hf => ?_)
        refine S.val hf hs (v := .int .i64 c.Turn) rfl rfl rfl (V.loadBox 0 rfl rfl rfl Try.isAgg3 Try.sizeOf3 rfl rfl) (fun a hf => ?_)
        refine S.callv hf rfl rfl rfl (call_fn (vs := [.int .i64 c.Turn, .int .i64 0, .int .i64 1000]) rfl rfl rfl Try.call43) (C_ref7_within c.Turn 0 1000 _ ) (fun a w hf hs' => ?_)
        replace hs := hs.call hs'; clear hs'
        refine S.val hf hs (v := .bool (!(within c.Turn 0 1000))) rfl rfl rfl (V.pure rfl) (fun a hf => ?_)
        refine S.val hf hs (v := .bool (!(within c.Turn 0 1000))) rfl rfl rfl (V.pure rfl) (fun a hf => ?_)
        refine S.split hf hs (b := !(within c.Turn 0 1000)) rfl rfl rfl (V.pure rfl) (fun hc a hf => ?_) (fun hc a hf => ?_)
        · replace h := h.1 hc
          refine S.skip hf rfl rfl rfl (fun a hf => ?_)
          refine S.skip hf rfl rfl rfl (fun a hf => ?_)
          refine S.skip hf rfl rfl rfl (fun a hf => ?_)
          refine S.skip hf rfl rfl rfl (fun a hf => ?_)
          refine S.val hf hs (v := .bool true) rfl rfl rfl (V.pure rfl) (fun a hf => ?_)
          refine R.nil ?_
          refine X.then_ ?_
          exact ⟨true, h, (hf.nil.cons (hf.get 24 _ rfl)), hs⟩
        · replace h := h.2 hc
          refine S.val hf hs (v := .pointer (some ⟨g1, 3, none⟩)) rfl rfl rfl (V.fieldBox rfl rfl Try.runUnderlying26 rfl Try.sizeOf3 rfl rfl) (fun a hf => ?_)
          refine S.val hf hs (v := .int .i64 c.Against) rfl rfl rfl (V.loadBox 0 rfl rfl rfl Try.isAgg3 Try.sizeOf3 rfl rfl) (fun a hf => ?_)
          refine S.callv hf rfl rfl rfl (call_fn (vs := [.int .i64 c.Against, .int .i64 0, .int .i64 1000]) rfl rfl rfl Try.call43) (C_ref7_within c.Against 0 1000 _ ) (fun a w hf hs' => ?_)
          replace hs := hs.call hs'; clear hs'
          refine S.val hf hs (v := .bool (!(within c.Against 0 1000))) rfl rfl rfl (V.pure rfl) (fun a hf => ?_)
          refine S.val hf hs (v := .bool (!(within c.Against 0 1000))) rfl rfl rfl (V.pure rfl) (fun a hf => ?_)
          refine R.nil ?_
          refine X.then_ ?_
          exact ⟨(!(within c.Against 0 1000)), h, (hf.nil.cons (hf.get 24 _ rfl)), hs⟩

set_option linter.unusedVariables false
def M_route_blocked_L1 (g : Grid) (k1 : Nat) (xk1 : Cell) (l2 : List Bool) (next1 : List Bool → Prop) : Prop :=
  M_route_number g xk1 fun y1 => idx l2 y1 fun x1 => next1 (l2.set y1.toNat true)
def M_route_blocked (g : Grid) (Q : (List Bool) → Prop) : Prop :=
  must (0 ≤ w64 ((w64 (g.W * g.H)) * g.Layers) ∧ w64 ((w64 (g.W * g.H)) * g.Layers) * 1 ≤ 281474976710656) (forIn' (fun k x (s : List Bool) next => M_route_blocked_L1 g k x s (fun l2 => next l2)) (fun (s : List Bool) => (fun (l2 : List Bool) => Q l2) s) g.Blocked 0 (List.replicate ((w64 ((w64 (g.W * g.H)) * g.Layers)).toNat) false))
set_option maxHeartbeats 1000000 in
theorem R_route_blocked (g : Grid) (w0 : World) (g_BlockedA : Option Addr) (g_BlockedC : Nat) (hv_g_Blocked : View w0 (old w0 none_) g_BlockedA g_BlockedC g.Blocked) (Q : (List Bool) → Prop) (h : M_route_blocked g Q) :
    Ret Try.prog 49 #[.agg #[.int .i64 g.W, .int .i64 g.H, .int .i64 g.Layers, .slice g_BlockedA g.Blocked.length g_BlockedC]] w0 fun v w' => ∃ (r0 : (List Bool)) (r0A : Option Addr) (r0C : Nat), v = .slice r0A r0.length r0C ∧ Q r0 ∧ Sat w0 none_ [hown 4 r0A r0C r0] w' := by
  refine fn_enter Try.func49 rfl Try.ntmps49 rfl (fs := [(0, .agg #[.int .i64 g.W, .int .i64 g.H, .int .i64 g.Layers, .slice g_BlockedA g.Blocked.length g_BlockedC])]) rfl (fun a hf => ?_)
  have hs := Sat.start w0 none_
  unfold M_route_blocked at h
  refine wp_seq ?_
  refine R.list ?_
  refine S.box hf hs rfl rfl rfl [.int .i64 g.W, .int .i64 g.H, .int .i64 g.Layers, .slice g_BlockedA g.Blocked.length g_BlockedC] rfl rfl rfl (fun g1 a w hf hs => ?_)
  refine S.val hf hs (v := .slice none 0 0) rfl rfl rfl (V.pure rfl) (fun a hf => ?_)
  refine R.nil ?_
  refine X.then_ ?_
  refine wp_seq ?_
  refine R.list ?_
  refine S.val hf hs (v := .pointer (some ⟨g1, 0, none⟩)) rfl rfl rfl (V.fieldBox rfl rfl Try.runUnderlying24 rfl Try.sizeOf3 rfl rfl) (fun a hf => ?_)
  refine S.val hf hs (v := .int .i64 g.W) rfl rfl rfl (V.loadBox 0 rfl rfl rfl Try.isAgg3 Try.sizeOf3 rfl rfl) (fun a hf => ?_)
  refine S.val hf hs (v := .pointer (some ⟨g1, 1, none⟩)) rfl rfl rfl (V.fieldBox rfl rfl Try.runUnderlying24 rfl Try.sizeOf3 rfl rfl) (fun a hf => ?_)
  refine S.val hf hs (v := .int .i64 g.H) rfl rfl rfl (V.loadBox 0 rfl rfl rfl Try.isAgg3 Try.sizeOf3 rfl rfl) (fun a hf => ?_)
  refine S.val hf hs (v := .int .i64 (w64 (g.W * g.H))) rfl rfl rfl (V.pure rfl) (fun a hf => ?_)
  refine S.val hf hs (v := .pointer (some ⟨g1, 2, none⟩)) rfl rfl rfl (V.fieldBox rfl rfl Try.runUnderlying24 rfl Try.sizeOf3 rfl rfl) (fun a hf => ?_)
  refine S.val hf hs (v := .int .i64 g.Layers) rfl rfl rfl (V.loadBox 0 rfl rfl rfl Try.isAgg3 Try.sizeOf3 rfl rfl) (fun a hf => ?_)
  refine S.val hf hs (v := .int .i64 (w64 ((w64 (g.W * g.H)) * g.Layers))) rfl rfl rfl (V.pure rfl) (fun a hf => ?_)
  obtain ⟨hmk, h⟩ := h
  refine S.make hf hs rfl rfl rfl (α := Bool) false (z := (w64 ((w64 (g.W * g.H)) * g.Layers))) (N := (w64 ((w64 (g.W * g.H)) * g.Layers)).toNat) rfl rfl rfl Try.underlying66 info4 hmk rfl (by have := hmk.2; omega) (fun A1 a w hf hs => ?_)
  refine S.val hf hs (v := .slice A1 (List.replicate ((w64 ((w64 (g.W * g.H)) * g.Layers)).toNat) false).length ((w64 ((w64 (g.W * g.H)) * g.Layers)).toNat)) rfl rfl rfl (V.pure rfl) (fun a hf => ?_)
  refine R.nil ?_
  refine X.then_ ?_
  refine wp_seq ?_
  refine wp_seq ?_
  refine R.list ?_
  refine S.val hf hs (v := .pointer (some ⟨g1, 3, none⟩)) rfl rfl rfl (V.fieldBox rfl rfl Try.runUnderlying24 rfl Try.sizeOf22 rfl rfl) (fun a hf => ?_)
  refine S.val hf hs (v := .slice g_BlockedA g.Blocked.length g_BlockedC) rfl rfl rfl (V.loadBox 1 rfl rfl rfl Try.isAgg22 Try.sizeOf22 rfl rfl) (fun a hf => ?_)
  refine S.val hf hs (v := .int .i64 (g.Blocked.length : Int)) rfl rfl rfl (V.len rfl rfl Try.runUnderlying22) (fun a hf => ?_)
  refine S.val hf hs (v := .int .i64 0) rfl rfl rfl (V.pure rfl) (fun a hf => ?_)
  refine R.nil ?_
  refine X.then_ ?_
  refine wp_block ?_
  have hlenk1 := hv_g_Blocked.len64
  refine C.range (fun (ll : List Cell) a w => ∃ (k1 : Nat) (l2 : List Bool) (l2A : Option Addr) (l2C : Nat), g.Blocked.drop k1 = ll ∧ k1 + ll.length = g.Blocked.length ∧ forIn' (fun k x (s : List Bool) next => M_route_blocked_L1 g k x s (fun l2 => next l2)) (fun (s : List Bool) => (fun (l2 : List Bool) => Q l2) s) ll k1 l2 ∧ FrOk 29 [(18, .int .i64 (k1 : Int)), (1, .pointer (some ⟨g1, 0, none⟩)), (3, .slice l2A l2.length l2C), (16, .slice g_BlockedA g.Blocked.length g_BlockedC), (17, .int .i64 (g.Blocked.length : Int))] a ∧ Sat w0 none_ [hown 4 l2A l2C l2, hbox g1 24 [.int .i64 g.W, .int .i64 g.H, .int .i64 g.Layers, .slice g_BlockedA g.Blocked.length g_BlockedC]] w) g.Blocked ⟨0, (List.replicate ((w64 ((w64 (g.W * g.H)) * g.Layers)).toNat) false), A1, ((w64 ((w64 (g.W * g.H)) * g.Layers)).toNat), rfl, Nat.zero_add _, h, (((((hf.nil.cons (hf.get 17 _ rfl)).cons (hf.get 16 _ rfl)).cons (hf.get 3 _ rfl)).cons (hf.get 1 _ rfl)).cons (hf.get 18 _ rfl)), hs⟩ ?_
  clear h hf hs
  rintro llk1 a w ⟨k1, l2, l2A, l2C, hlk1, hkk1, h, hf, hs⟩
  cases llk1 with
  | nil =>
    have hc := range_done hkk1
    replace h : (fun (l2 : List Bool) => Q l2) l2 := h
    refine wp_seq ?_
    refine R.list ?_
    refine S.val hf hs (v := .bool false) rfl rfl rfl (V.cmp false rfl rfl rfl rfl hc) (fun a hf => ?_)
    refine R.nil ?_
    refine X.then_ ?_
    refine wp_seq ?_
    refine C.no hf rfl ?_
    refine wp_exit ?_
    refine X.then_exit ?_
    refine X.then_exit ?_
    refine X.blk_exit ?_
    refine X.then_ ?_
    refine wp_seq ?_
    refine R.list ?_
    refine S.val hf hs (v := .slice l2A l2.length l2C) rfl rfl rfl (V.pure rfl) (fun a hf => ?_)
    refine S.val hf hs (v := .slice l2A l2.length l2C) rfl rfl rfl (V.pure rfl) (fun a hf => ?_)
    refine R.nil ?_
    refine X.then_ ?_
    refine wp_ret ?_
    replace hs := hs.take 1
    exact L.ret hf (run_results1 Try.results49 (ResIs.tmp hf rfl)) ⟨l2, l2A, l2C, rfl, h, hs⟩
  | cons xk1 llk1 =>
    have hltk1 := range_lt hkk1; have hc := range_go hkk1; have hxk1 := range_get hlk1
    obtain ⟨next1, hnext1⟩ : ∃ X : List Bool → Prop, X = (fun l2 => forIn' (fun k x (s : List Bool) next => M_route_blocked_L1 g k x s (fun l2 => next l2)) (fun (s : List Bool) => (fun (l2 : List Bool) => Q l2) s) llk1 (k1 + 1) l2) := ⟨_, rfl⟩
    replace h : M_route_blocked_L1 g k1 xk1 l2 next1 := by rw [hnext1]; exact h
    unfold M_route_blocked_L1 at h
    refine wp_seq ?_
    refine R.list ?_
    refine S.val hf hs (v := .bool true) rfl rfl rfl (V.cmp true rfl rfl rfl rfl hc) (fun a hf => ?_)
    refine R.nil ?_
    refine X.then_ ?_
    refine wp_seq ?_
    refine C.yes hf rfl ?_
    refine wp_skip ?_
    refine X.then_ ?_
    refine wp_seq ?_
    refine wp_block ?_
    refine wp_seq ?_
    refine R.list ?_
    refine S.val hf hs (v := elemPtr g_BlockedA (k1 * 3)) rfl rfl rfl (V.index rfl rfl rfl Try.runUnderlying22 Try.sizeOf28 (hv_g_Blocked.some_ (lt_of_get hxk1)) (Int.natCast_nonneg _) (lt_of_get hxk1) rfl) (fun a hf => ?_)
    refine S.val hf hs (v := .agg #[.int .i64 xk1.X, .int .i64 xk1.Y, .int .i64 xk1.Layer]) rfl rfl rfl (V.loadEl (off := 0) (Ag.args _ _ _) (hv_g_Blocked.flat hxk1) rfl rfl rfl Try.isAgg28 Try.sizeOf28 rfl rfl) (fun a hf => ?_)
    refine S.alloc hf hs rfl rfl rfl [.int .i64 0, .int .i64 0, .int .i64 0] rfl Try.zeroValue28 rfl (fun g2 a w hf hs => ?_)
    refine S.storeBox 0 hf hs rfl rfl [.int .i64 xk1.X, .int .i64 xk1.Y, .int .i64 xk1.Layer] [.int .i64 xk1.X, .int .i64 xk1.Y, .int .i64 xk1.Layer] rfl rfl rfl rfl rfl Try.sizeOf28 rfl rfl rfl rfl (fun a w hf hs => ?_)
    refine R.nil ?_
    refine X.then_ ?_
    refine R.list ?_
    refine S.val hf hs (v := .slice l2A l2.length l2C) rfl rfl rfl (V.pure rfl) (fun a hf => ?_)
    refine S.val hf hs (v := .agg #[.int .i64 g.W, .int .i64 g.H, .int .i64 g.Layers, .slice g_BlockedA g.Blocked.length g_BlockedC]) rfl rfl rfl (V.loadBox 2 rfl rfl rfl Try.isAgg24 Try.sizeOf24 rfl rfl) (fun a hf => ?_)
    refine S.val hf hs (v := .agg #[.int .i64 xk1.X, .int .i64 xk1.Y, .int .i64 xk1.Layer]) rfl rfl rfl (V.loadBox 0 rfl rfl rfl Try.isAgg28 Try.sizeOf28 rfl rfl) (fun a hf => ?_)
    refine S.call hf rfl rfl rfl (call_fn (vs := [.agg #[.int .i64 g.W, .int .i64 g.H, .int .i64 g.Layers, .slice g_BlockedA g.Blocked.length g_BlockedC], .agg #[.int .i64 xk1.X, .int .i64 xk1.Y, .int .i64 xk1.Layer]]) rfl rfl rfl Try.call36) (R_route_number g xk1 _ g_BlockedA g_BlockedC ((Ag.args _ _ _).view hv_g_Blocked hs) _ h) (fun v a w' hf hr => ?_)
    obtain ⟨y1, rfl, h2, hs2⟩ := hr
    replace h := h2; replace hs := hs.call hs2; clear h2 hs2
    obtain ⟨h0x1, x1, hx1, h⟩ := h
    refine S.val hf hs (v := elemPtr l2A (y1.toNat * 1)) rfl rfl rfl (V.index rfl rfl rfl Try.runUnderlying66 Try.sizeOf4 (hs.ownSome 1 rfl (lt_of_get hx1)) h0x1 (lt_of_get hx1) rfl) (fun a hf => ?_)
    refine S.storeOwn (off := 0) 1 hf hs rfl rfl true [.bool true] rfl hx1 rfl rfl rfl rfl rfl Try.sizeOf4 rfl (by decide) rfl rfl (fun a w hf hs => ?_)
    replace hf := hf.tell 3 (v := .slice l2A (l2.set y1.toNat true).length l2C) ((hf.get 3 (.slice l2A l2.length l2C) rfl).trans (congrArg (fun n => Value.slice l2A n l2C) List.length_set.symm))
    replace hf := hf.tell 22 (v := .slice l2A (l2.set y1.toNat true).length l2C) ((hf.get 22 (.slice l2A l2.length l2C) rfl).trans (congrArg (fun n => Value.slice l2A n l2C) List.length_set.symm))
    refine R.nil ?_
    refine X.blk ?_
    refine X.then_ ?_
    refine R.list ?_
    refine S.val hf hs (v := .int .i64 ((k1 + 1 : Nat) : Int)) rfl rfl rfl (V.incr rfl rfl rfl hltk1 hlenk1) (fun a hf => ?_)
    refine S.val hf hs (v := .int .i64 ((k1 + 1 : Nat) : Int)) rfl rfl rfl (V.pure rfl) (fun a hf => ?_)
    refine R.nil ?_
    refine X.then_ ?_
    exact ⟨xk1, llk1, rfl, k1 + 1, (l2.set y1.toNat true), l2A, l2C, range_drop hlk1, range_len hkk1, (by rw [hnext1] at h; exact h), (((((hf.nil.cons (hf.get 17 _ rfl)).cons (hf.get 16 _ rfl)).cons (hf.get 3 _ rfl)).cons (hf.get 1 _ rfl)).cons (hf.get 18 _ rfl)), hs.drop⟩

set_option linter.unusedVariables false
def M_route_axis_k3 (Q : Int → Prop) (c3 : Bool) : Prop :=
  cnd c3 (Q 3) (Q 0)
def M_route_axis_k2 (a_ : Cell) (b : Cell) (Q : Int → Prop) (c2 : Bool) : Prop :=
  cnd c2 (Q 2) (cnd ((max (w64 (a_.Layer - b.Layer)) (w64 (b.Layer - a_.Layer))) == 1) (M_route_axis_k3 Q ((w64 ((max (w64 (a_.X - b.X)) (w64 (b.X - a_.X))) + (max (w64 (a_.Y - b.Y)) (w64 (b.Y - a_.Y))))) == 0)) (M_route_axis_k3 Q false))
def M_route_axis_k1 (a_ : Cell) (b : Cell) (Q : Int → Prop) (c1 : Bool) : Prop :=
  cnd c1 (Q 1) (cnd ((max (w64 (a_.Y - b.Y)) (w64 (b.Y - a_.Y))) == 1) (M_route_axis_k2 a_ b Q ((w64 ((max (w64 (a_.X - b.X)) (w64 (b.X - a_.X))) + (max (w64 (a_.Layer - b.Layer)) (w64 (b.Layer - a_.Layer))))) == 0)) (M_route_axis_k2 a_ b Q false))
def M_route_axis (a_ : Cell) (b : Cell) (Q : Int → Prop) : Prop :=
  cnd ((max (w64 (a_.X - b.X)) (w64 (b.X - a_.X))) == 1) (M_route_axis_k1 a_ b Q ((w64 ((max (w64 (a_.Y - b.Y)) (w64 (b.Y - a_.Y))) + (max (w64 (a_.Layer - b.Layer)) (w64 (b.Layer - a_.Layer))))) == 0)) (M_route_axis_k1 a_ b Q false)
set_option maxHeartbeats 1000000 in
theorem R_route_axis (a_ : Cell) (b : Cell) (w0 : World)  (Q : Int → Prop) (h : M_route_axis a_ b Q) :
    Ret Try.prog 81 #[.agg #[.int .i64 a_.X, .int .i64 a_.Y, .int .i64 a_.Layer], .agg #[.int .i64 b.X, .int .i64 b.Y, .int .i64 b.Layer]] w0 fun v w' => ∃ (r0 : Int), v = .int .i64 r0 ∧ Q r0 ∧ Sat w0 none_ [] w' := by
  refine fn_enter Try.func81 rfl Try.ntmps81 rfl (fs := [(0, .agg #[.int .i64 a_.X, .int .i64 a_.Y, .int .i64 a_.Layer]), (1, .agg #[.int .i64 b.X, .int .i64 b.Y, .int .i64 b.Layer])]) rfl (fun a hf => ?_)
  have hs := Sat.start w0 none_
  unfold M_route_axis at h
  refine wp_seq ?_
  refine R.list ?_
  refine S.box hf hs rfl rfl rfl [.int .i64 a_.X, .int .i64 a_.Y, .int .i64 a_.Layer] rfl rfl rfl (fun g1 a w hf hs => ?_)
  refine S.box hf hs rfl rfl rfl [.int .i64 b.X, .int .i64 b.Y, .int .i64 b.Layer] rfl rfl rfl (fun g2 a w hf hs => ?_)
  refine S.val hf hs (v := .int .i64 0) rfl rfl rfl (V.pure rfl) (fun a hf => ?_)
  refine R.nil ?_
  refine X.then_ ?_
  refine wp_seq ?_
  refine R.draw mo (by kernel_rfl) hs ?_
  refine D.val hf (v := .pointer (some ⟨g1, 0, none⟩)) rfl rfl rfl (V.fieldBox rfl rfl Try.runUnderlying28 rfl Try.sizeOf3 rfl rfl) (fun a hf => ?_)
  refine D.val hf (v := .int .i64 a_.X) rfl rfl rfl (V.loadBox 1 rfl rfl rfl Try.isAgg3 Try.sizeOf3 rfl rfl) (fun a hf => ?_)
  refine D.val hf (v := .pointer (some ⟨g2, 0, none⟩)) rfl rfl rfl (V.fieldBox rfl rfl Try.runUnderlying28 rfl Try.sizeOf3 rfl rfl) (fun a hf => ?_)
  refine D.val hf (v := .int .i64 b.X) rfl rfl rfl (V.loadBox 0 rfl rfl rfl Try.isAgg3 Try.sizeOf3 rfl rfl) (fun a hf => ?_)
  refine D.val hf (v := .int .i64 (w64 (a_.X - b.X))) rfl rfl rfl (V.pure rfl) (fun a hf => ?_)
  refine D.val hf (v := .pointer (some ⟨g2, 0, none⟩)) rfl rfl rfl (V.fieldBox rfl rfl Try.runUnderlying28 rfl Try.sizeOf3 rfl rfl) (fun a hf => ?_)
  refine D.val hf (v := .int .i64 b.X) rfl rfl rfl (V.loadBox 0 rfl rfl rfl Try.isAgg3 Try.sizeOf3 rfl rfl) (fun a hf => ?_)
  refine D.val hf (v := .pointer (some ⟨g1, 0, none⟩)) rfl rfl rfl (V.fieldBox rfl rfl Try.runUnderlying28 rfl Try.sizeOf3 rfl rfl) (fun a hf => ?_)
  refine D.val hf (v := .int .i64 a_.X) rfl rfl rfl (V.loadBox 1 rfl rfl rfl Try.isAgg3 Try.sizeOf3 rfl rfl) (fun a hf => ?_)
  refine D.val hf (v := .int .i64 (w64 (b.X - a_.X))) rfl rfl rfl (V.pure rfl) (fun a hf => ?_)
  refine D.val hf (v := .int .i64 (max (w64 (a_.X - b.X)) (w64 (b.X - a_.X)))) rfl rfl rfl (V.max2 rfl rfl rfl) (fun a hf => ?_)
  refine D.val hf (v := .pointer (some ⟨g1, 1, none⟩)) rfl rfl rfl (V.fieldBox rfl rfl Try.runUnderlying28 rfl Try.sizeOf3 rfl rfl) (fun a hf => ?_)
  refine D.val hf (v := .int .i64 a_.Y) rfl rfl rfl (V.loadBox 1 rfl rfl rfl Try.isAgg3 Try.sizeOf3 rfl rfl) (fun a hf => ?_)
  refine D.val hf (v := .pointer (some ⟨g2, 1, none⟩)) rfl rfl rfl (V.fieldBox rfl rfl Try.runUnderlying28 rfl Try.sizeOf3 rfl rfl) (fun a hf => ?_)
  refine D.val hf (v := .int .i64 b.Y) rfl rfl rfl (V.loadBox 0 rfl rfl rfl Try.isAgg3 Try.sizeOf3 rfl rfl) (fun a hf => ?_)
  refine D.val hf (v := .int .i64 (w64 (a_.Y - b.Y))) rfl rfl rfl (V.pure rfl) (fun a hf => ?_)
  refine D.val hf (v := .pointer (some ⟨g2, 1, none⟩)) rfl rfl rfl (V.fieldBox rfl rfl Try.runUnderlying28 rfl Try.sizeOf3 rfl rfl) (fun a hf => ?_)
  refine D.val hf (v := .int .i64 b.Y) rfl rfl rfl (V.loadBox 0 rfl rfl rfl Try.isAgg3 Try.sizeOf3 rfl rfl) (fun a hf => ?_)
  refine D.val hf (v := .pointer (some ⟨g1, 1, none⟩)) rfl rfl rfl (V.fieldBox rfl rfl Try.runUnderlying28 rfl Try.sizeOf3 rfl rfl) (fun a hf => ?_)
  refine D.val hf (v := .int .i64 a_.Y) rfl rfl rfl (V.loadBox 1 rfl rfl rfl Try.isAgg3 Try.sizeOf3 rfl rfl) (fun a hf => ?_)
  refine D.val hf (v := .int .i64 (w64 (b.Y - a_.Y))) rfl rfl rfl (V.pure rfl) (fun a hf => ?_)
  refine D.val hf (v := .int .i64 (max (w64 (a_.Y - b.Y)) (w64 (b.Y - a_.Y)))) rfl rfl rfl (V.max2 rfl rfl rfl) (fun a hf => ?_)
  refine D.val hf (v := .pointer (some ⟨g1, 2, none⟩)) rfl rfl rfl (V.fieldBox rfl rfl Try.runUnderlying28 rfl Try.sizeOf3 rfl rfl) (fun a hf => ?_)
  refine D.val hf (v := .int .i64 a_.Layer) rfl rfl rfl (V.loadBox 1 rfl rfl rfl Try.isAgg3 Try.sizeOf3 rfl rfl) (fun a hf => ?_)
  refine D.val hf (v := .pointer (some ⟨g2, 2, none⟩)) rfl rfl rfl (V.fieldBox rfl rfl Try.runUnderlying28 rfl Try.sizeOf3 rfl rfl) (fun a hf => ?_)
  refine D.val hf (v := .int .i64 b.Layer) rfl rfl rfl (V.loadBox 0 rfl rfl rfl Try.isAgg3 Try.sizeOf3 rfl rfl) (fun a hf => ?_)
  refine D.val hf (v := .int .i64 (w64 (a_.Layer - b.Layer))) rfl rfl rfl (V.pure rfl) (fun a hf => ?_)
  refine D.val hf (v := .pointer (some ⟨g2, 2, none⟩)) rfl rfl rfl (V.fieldBox rfl rfl Try.runUnderlying28 rfl Try.sizeOf3 rfl rfl) (fun a hf => ?_)
  refine D.val hf (v := .int .i64 b.Layer) rfl rfl rfl (V.loadBox 0 rfl rfl rfl Try.isAgg3 Try.sizeOf3 rfl rfl) (fun a hf => ?_)
  refine D.val hf (v := .pointer (some ⟨g1, 2, none⟩)) rfl rfl rfl (V.fieldBox rfl rfl Try.runUnderlying28 rfl Try.sizeOf3 rfl rfl) (fun a hf => ?_)
  refine D.val hf (v := .int .i64 a_.Layer) rfl rfl rfl (V.loadBox 1 rfl rfl rfl Try.isAgg3 Try.sizeOf3 rfl rfl) (fun a hf => ?_)
  refine D.val hf (v := .int .i64 (w64 (b.Layer - a_.Layer))) rfl rfl rfl (V.pure rfl) (fun a hf => ?_)
  refine D.val hf (v := .int .i64 (max (w64 (a_.Layer - b.Layer)) (w64 (b.Layer - a_.Layer)))) rfl rfl rfl (V.max2 rfl rfl rfl) (fun a hf => ?_)
  refine D.val hf (v := .int .i64 (max (w64 (a_.X - b.X)) (w64 (b.X - a_.X)))) rfl rfl rfl (V.pure rfl) (fun a hf => ?_)
  refine D.val hf (v := .int .i64 (max (w64 (a_.Y - b.Y)) (w64 (b.Y - a_.Y)))) rfl rfl rfl (V.pure rfl) (fun a hf => ?_)
  refine D.val hf (v := .int .i64 (max (w64 (a_.Layer - b.Layer)) (w64 (b.Layer - a_.Layer)))) rfl rfl rfl (V.pure rfl) (fun a hf => ?_)
  refine D.done (fun w hs => ?_)
  refine X.then_ ?_
  refine wp_seq ?_
  refine wp_block ?_
  refine wp_seq ?_
  refine C.cut (J := fun a w => ∃ (c1 : Bool), M_route_axis_k1 a_ b Q c1 ∧ FrOk 68 [(5, .int .i64 (max (w64 (a_.X - b.X)) (w64 (b.X - a_.X)))), (6, .int .i64 (max (w64 (a_.Y - b.Y)) (w64 (b.Y - a_.Y)))), (7, .int .i64 (max (w64 (a_.Layer - b.Layer)) (w64 (b.Layer - a_.Layer)))), (41, .bool c1)] a ∧ Sat w0 none_ [hbox g2 28 [.int .i64 b.X, .int .i64 b.Y, .int .i64 b.Layer], hbox g1 28 [.int .i64 a_.X, .int .i64 a_.Y, .int .i64 a_.Layer]] w) ?_ ?_
  · rintro a w ⟨c1, h, hf, hs⟩
    unfold M_route_axis_k1 at h
    refine C.cond hf (b := c1) rfl (fun hc => ?_) (fun hc => ?_)
    · replace h := h.1 hc
      refine wp_seq ?_
      refine R.list ?_
      refine S.val hf hs (v := .int .i64 1) rfl rfl rfl (V.pure rfl) (fun a hf => ?_)
      refine R.nil ?_
      refine X.then_ ?_
      refine wp_ret ?_
      refine X.blk_ret ?_
      refine X.then_ret ?_
      exact L.ret hf (run_results1 Try.results81 (ResIs.tmp hf rfl)) ⟨1, rfl, h, hs.nil⟩
    · replace h := h.2 hc
      refine wp_seq ?_
      refine C.cut (J := fun a w => ∃ (c2 : Bool), M_route_axis_k2 a_ b Q c2 ∧ FrOk 68 [(5, .int .i64 (max (w64 (a_.X - b.X)) (w64 (b.X - a_.X)))), (6, .int .i64 (max (w64 (a_.Y - b.Y)) (w64 (b.Y - a_.Y)))), (7, .int .i64 (max (w64 (a_.Layer - b.Layer)) (w64 (b.Layer - a_.Layer)))), (50, .bool c2)] a ∧ Sat w0 none_ [hbox g2 28 [.int .i64 b.X, .int .i64 b.Y, .int .i64 b.Layer], hbox g1 28 [.int .i64 a_.X, .int .i64 a_.Y, .int .i64 a_.Layer]] w) ?_ ?_
      · rintro a w ⟨c2, h, hf, hs⟩
        unfold M_route_axis_k2 at h
        refine C.cond hf (b := c2) rfl (fun hc => ?_) (fun hc => ?_)
        · replace h := h.1 hc
          refine wp_seq ?_
          refine R.list ?_
          refine S.val hf hs (v := .int .i64 2) rfl rfl rfl (V.pure rfl) (fun a hf => ?_)
          refine R.nil ?_
          refine X.then_ ?_
          refine wp_ret ?_
          refine X.blk_ret ?_
          refine X.then_ret ?_
          exact L.ret hf (run_results1 Try.results81 (ResIs.tmp hf rfl)) ⟨2, rfl, h, hs.nil⟩
        · replace h := h.2 hc
          refine wp_seq ?_
          refine C.cut (J := fun a w => ∃ (c3 : Bool), M_route_axis_k3 Q c3 ∧ FrOk 68 [(59, .bool c3)] a ∧ Sat w0 none_ [hbox g2 28 [.int .i64 b.X, .int .i64 b.Y, .int .i64 b.Layer], hbox g1 28 [.int .i64 a_.X, .int .i64 a_.Y, .int .i64 a_.Layer]] w) ?_ ?_
          · rintro a w ⟨c3, h, hf, hs⟩
            unfold M_route_axis_k3 at h
            refine C.cond hf (b := c3) rfl (fun hc => ?_) (fun hc => ?_)
            · replace h := h.1 hc
              refine wp_seq ?_
              refine R.list ?_
              refine S.val hf hs (v := .int .i64 3) rfl rfl rfl (V.pure rfl) (fun a hf => ?_)
              refine R.nil ?_
              refine X.then_ ?_
              refine wp_ret ?_
              refine X.blk_ret ?_
              refine X.then_ret ?_
              exact L.ret hf (run_results1 Try.results81 (ResIs.tmp hf rfl)) ⟨3, rfl, h, hs.nil⟩
            · replace h := h.2 hc
              refine wp_skip ?_
              refine X.blk ?_
              refine X.then_ ?_
              refine wp_seq ?_
              refine R.list ?_
              refine S.val hf hs (v := .int .i64 0) rfl rfl rfl (V.pure rfl) (fun a hf => ?_)
              refine R.nil ?_
              refine X.then_ ?_
              refine wp_ret ?_
              exact L.ret hf (run_results1 Try.results81 (ResIs.tmp hf rfl)) ⟨0, rfl, h, hs.nil⟩
          · skip
            refine R.list ?_
            refine S.val hf hs (v := .int .i64 (max (w64 (a_.Layer - b.Layer)) (w64 (b.Layer - a_.Layer)))) rfl rfl rfl (V.pure rfl) (fun a hf => ?_)
            refine S.val hf hs (v := .bool ((max (w64 (a_.Layer - b.Layer)) (w64 (b.Layer - a_.Layer))) == 1)) rfl rfl rfl (V.pure rfl) (fun a hf => ?_)
            refine S.split hf hs (b := (max (w64 (a_.Layer - b.Layer)) (w64 (b.Layer - a_.Layer))) == 1) rfl rfl rfl (V.pure rfl) (fun hc a hf => ?_) (fun hc a hf => ?_)
            · replace h := h.1 hc
              refine S.val hf hs (v := .int .i64 (max (w64 (a_.X - b.X)) (w64 (b.X - a_.X)))) rfl rfl rfl (V.pure rfl) (fun a hf => ?_)
              refine S.val hf hs (v := .int .i64 (max (w64 (a_.Y - b.Y)) (w64 (b.Y - a_.Y)))) rfl rfl rfl (V.pure rfl) (fun a hf => ?_)
              refine S.val hf hs (v := .int .i64 (w64 ((max (w64 (a_.X - b.X)) (w64 (b.X - a_.X))) + (max (w64 (a_.Y - b.Y)) (w64 (b.Y - a_.Y)))))) rfl rfl rfl (V.pure rfl) (fun a hf => ?_)
              refine S.val hf hs (v := .bool ((w64 ((max (w64 (a_.X - b.X)) (w64 (b.X - a_.X))) + (max (w64 (a_.Y - b.Y)) (w64 (b.Y - a_.Y))))) == 0)) rfl rfl rfl (V.pure rfl) (fun a hf => ?_)
              refine S.val hf hs (v := .bool ((w64 ((max (w64 (a_.X - b.X)) (w64 (b.X - a_.X))) + (max (w64 (a_.Y - b.Y)) (w64 (b.Y - a_.Y))))) == 0)) rfl rfl rfl (V.pure rfl) (fun a hf => ?_)
              refine S.val hf hs (v := .bool ((w64 ((max (w64 (a_.X - b.X)) (w64 (b.X - a_.X))) + (max (w64 (a_.Y - b.Y)) (w64 (b.Y - a_.Y))))) == 0)) rfl rfl rfl (V.pure rfl) (fun a hf => ?_)
              refine R.nil ?_
              refine X.then_ ?_
              exact ⟨((w64 ((max (w64 (a_.X - b.X)) (w64 (b.X - a_.X))) + (max (w64 (a_.Y - b.Y)) (w64 (b.Y - a_.Y))))) == 0), h, (hf.nil.cons (hf.get 59 _ rfl)), hs⟩
            · replace h := h.2 hc
              refine S.skip hf rfl rfl rfl (fun a hf => ?_)
              refine S.skip hf rfl rfl rfl (fun a hf => ?_)
              refine S.skip hf rfl rfl rfl (fun a hf => ?_)
              refine S.skip hf rfl rfl rfl (fun a hf => ?_)
              refine S.val hf hs (v := .bool false) rfl rfl rfl (V.pure rfl) (fun a hf => ?_)
              refine S.val hf hs (v := .bool false) rfl rfl rfl (V.pure rfl) (fun a hf => ?_)
              refine R.nil ?_
              refine X.then_ ?_
              exact ⟨false, h, (hf.nil.cons (hf.get 59 _ rfl)), hs⟩
      · skip
        refine R.list ?_
        refine S.val hf hs (v := .int .i64 (max (w64 (a_.Y - b.Y)) (w64 (b.Y - a_.Y)))) rfl rfl rfl (V.pure rfl) (fun a hf => ?_)
        refine S.val hf hs (v := .bool ((max (w64 (a_.Y - b.Y)) (w64 (b.Y - a_.Y))) == 1)) rfl rfl rfl (V.pure rfl) (fun a hf => ?_)
        refine S.split hf hs (b := (max (w64 (a_.Y - b.Y)) (w64 (b.Y - a_.Y))) == 1) rfl rfl rfl (V.pure rfl) (fun hc a hf => ?_) (fun hc a hf => ?_)
        · replace h := h.1 hc
          refine S.val hf hs (v := .int .i64 (max (w64 (a_.X - b.X)) (w64 (b.X - a_.X)))) rfl rfl rfl (V.pure rfl) (fun a hf => ?_)
          refine S.val hf hs (v := .int .i64 (max (w64 (a_.Layer - b.Layer)) (w64 (b.Layer - a_.Layer)))) rfl rfl rfl (V.pure rfl) (fun a hf => ?_)
          refine S.val hf hs (v := .int .i64 (w64 ((max (w64 (a_.X - b.X)) (w64 (b.X - a_.X))) + (max (w64 (a_.Layer - b.Layer)) (w64 (b.Layer - a_.Layer)))))) rfl rfl rfl (V.pure rfl) (fun a hf => ?_)
          refine S.val hf hs (v := .bool ((w64 ((max (w64 (a_.X - b.X)) (w64 (b.X - a_.X))) + (max (w64 (a_.Layer - b.Layer)) (w64 (b.Layer - a_.Layer))))) == 0)) rfl rfl rfl (V.pure rfl) (fun a hf => ?_)
          refine S.val hf hs (v := .bool ((w64 ((max (w64 (a_.X - b.X)) (w64 (b.X - a_.X))) + (max (w64 (a_.Layer - b.Layer)) (w64 (b.Layer - a_.Layer))))) == 0)) rfl rfl rfl (V.pure rfl) (fun a hf => ?_)
          refine S.val hf hs (v := .bool ((w64 ((max (w64 (a_.X - b.X)) (w64 (b.X - a_.X))) + (max (w64 (a_.Layer - b.Layer)) (w64 (b.Layer - a_.Layer))))) == 0)) rfl rfl rfl (V.pure rfl) (fun a hf => ?_)
          refine R.nil ?_
          refine X.then_ ?_
          exact ⟨((w64 ((max (w64 (a_.X - b.X)) (w64 (b.X - a_.X))) + (max (w64 (a_.Layer - b.Layer)) (w64 (b.Layer - a_.Layer))))) == 0), h, ((((hf.nil.cons (hf.get 50 _ rfl)).cons (hf.get 7 _ rfl)).cons (hf.get 6 _ rfl)).cons (hf.get 5 _ rfl)), hs⟩
        · replace h := h.2 hc
          refine S.skip hf rfl rfl rfl (fun a hf => ?_)
          refine S.skip hf rfl rfl rfl (fun a hf => ?_)
          refine S.skip hf rfl rfl rfl (fun a hf => ?_)
          refine S.skip hf rfl rfl rfl (fun a hf => ?_)
          refine S.val hf hs (v := .bool false) rfl rfl rfl (V.pure rfl) (fun a hf => ?_)
          refine S.val hf hs (v := .bool false) rfl rfl rfl (V.pure rfl) (fun a hf => ?_)
          refine R.nil ?_
          refine X.then_ ?_
          exact ⟨false, h, ((((hf.nil.cons (hf.get 50 _ rfl)).cons (hf.get 7 _ rfl)).cons (hf.get 6 _ rfl)).cons (hf.get 5 _ rfl)), hs⟩
  · skip
    refine R.list ?_
    refine S.val hf hs (v := .int .i64 (max (w64 (a_.X - b.X)) (w64 (b.X - a_.X)))) rfl rfl rfl (V.pure rfl) (fun a hf => ?_)
    refine S.val hf hs (v := .bool ((max (w64 (a_.X - b.X)) (w64 (b.X - a_.X))) == 1)) rfl rfl rfl (V.pure rfl) (fun a hf => ?_)
    refine S.split hf hs (b := (max (w64 (a_.X - b.X)) (w64 (b.X - a_.X))) == 1) rfl rfl rfl (V.pure rfl) (fun hc a hf => ?_) (fun hc a hf => ?_)
    · replace h := h.1 hc
      refine S.val hf hs (v := .int .i64 (max (w64 (a_.Y - b.Y)) (w64 (b.Y - a_.Y)))) rfl rfl rfl (V.pure rfl) (fun a hf => ?_)
      refine S.val hf hs (v := .int .i64 (max (w64 (a_.Layer - b.Layer)) (w64 (b.Layer - a_.Layer)))) rfl rfl rfl (V.pure rfl) (fun a hf => ?_)
      refine S.val hf hs (v := .int .i64 (w64 ((max (w64 (a_.Y - b.Y)) (w64 (b.Y - a_.Y))) + (max (w64 (a_.Layer - b.Layer)) (w64 (b.Layer - a_.Layer)))))) rfl rfl rfl (V.pure rfl) (fun a hf => ?_)
      refine S.val hf hs (v := .bool ((w64 ((max (w64 (a_.Y - b.Y)) (w64 (b.Y - a_.Y))) + (max (w64 (a_.Layer - b.Layer)) (w64 (b.Layer - a_.Layer))))) == 0)) rfl rfl rfl (V.pure rfl) (fun a hf => ?_)
      refine S.val hf hs (v := .bool ((w64 ((max (w64 (a_.Y - b.Y)) (w64 (b.Y - a_.Y))) + (max (w64 (a_.Layer - b.Layer)) (w64 (b.Layer - a_.Layer))))) == 0)) rfl rfl rfl (V.pure rfl) (fun a hf => ?_)
      refine S.val hf hs (v := .bool ((w64 ((max (w64 (a_.Y - b.Y)) (w64 (b.Y - a_.Y))) + (max (w64 (a_.Layer - b.Layer)) (w64 (b.Layer - a_.Layer))))) == 0)) rfl rfl rfl (V.pure rfl) (fun a hf => ?_)
      refine R.nil ?_
      refine X.then_ ?_
      exact ⟨((w64 ((max (w64 (a_.Y - b.Y)) (w64 (b.Y - a_.Y))) + (max (w64 (a_.Layer - b.Layer)) (w64 (b.Layer - a_.Layer))))) == 0), h, ((((hf.nil.cons (hf.get 41 _ rfl)).cons (hf.get 7 _ rfl)).cons (hf.get 6 _ rfl)).cons (hf.get 5 _ rfl)), hs⟩
    · replace h := h.2 hc
      refine S.skip hf rfl rfl rfl (fun a hf => ?_)
      refine S.skip hf rfl rfl rfl (fun a hf => ?_)
      refine S.skip hf rfl rfl rfl (fun a hf => ?_)
      refine S.skip hf rfl rfl rfl (fun a hf => ?_)
      refine S.val hf hs (v := .bool false) rfl rfl rfl (V.pure rfl) (fun a hf => ?_)
      refine S.val hf hs (v := .bool false) rfl rfl rfl (V.pure rfl) (fun a hf => ?_)
      refine R.nil ?_
      refine X.then_ ?_
      exact ⟨false, h, ((((hf.nil.cons (hf.get 41 _ rfl)).cons (hf.get 7 _ rfl)).cons (hf.get 6 _ rfl)).cons (hf.get 5 _ rfl)), hs⟩

/-- what a step costs, and the last axis then -/
def stepC (c : Costs) (layer last along : Int) : Int × Int :=
  if along = 3 then (c.Via, last)
  else
    let n := if (decide (layer.tmod 2 = 0) == decide (along = 2)) = true then w64 (c.Step + c.Against) else c.Step
    (if last ≠ 0 ∧ last ≠ along then w64 (n + c.Turn) else n, along)
set_option linter.unusedVariables false
def M_route_stepCost_k2 (along : Int) (Q : Int → Int → Prop) (n2 : Int) : Prop :=
  Q n2 along
def M_route_stepCost_k3 (c : Costs) (along : Int) (Q : Int → Int → Prop) (n1 : Int) (c1 : Bool) : Prop :=
  cnd c1 (M_route_stepCost_k2 along Q (w64 (n1 + c.Turn))) (M_route_stepCost_k2 along Q n1)
def M_route_stepCost_k1 (c : Costs) (last : Int) (along : Int) (Q : Int → Int → Prop) (n1 : Int) : Prop :=
  cnd (last != 0) (M_route_stepCost_k3 c along Q n1 (last != along)) (M_route_stepCost_k3 c along Q n1 false)
def M_route_stepCost (c : Costs) (layer : Int) (last : Int) (along : Int) (Q : Int → Int → Prop) : Prop :=
  cnd (along == 3) (Q c.Via last) (cnd (((layer.tmod 2) == 0) == (along == 2)) (M_route_stepCost_k1 c last along Q (w64 (c.Step + c.Against))) (M_route_stepCost_k1 c last along Q c.Step))
set_option maxHeartbeats 1000000 in
theorem R_route_stepCost (c : Costs) (layer : Int) (last : Int) (along : Int) (w0 : World)  (Q : Int → Int → Prop) (h : M_route_stepCost c layer last along Q) :
    Ret Try.prog 82 #[.agg #[.int .i64 c.Step, .int .i64 c.Via, .int .i64 c.Turn, .int .i64 c.Against], .int .i64 layer, .int .i64 last, .int .i64 along] w0 fun v w' => ∃ (r0 : Int) (r1 : Int), v = .tuple #[.int .i64 r0, .int .i64 r1] ∧ Q r0 r1 ∧ Sat w0 none_ [] w' := by
  refine fn_enter Try.func82 rfl Try.ntmps82 rfl (fs := [(0, .agg #[.int .i64 c.Step, .int .i64 c.Via, .int .i64 c.Turn, .int .i64 c.Against]), (1, .int .i64 layer), (2, .int .i64 last), (3, .int .i64 along)]) rfl (fun a hf => ?_)
  have hs := Sat.start w0 none_
  unfold M_route_stepCost at h
  refine wp_seq ?_
  refine R.list ?_
  refine S.box hf hs rfl rfl rfl [.int .i64 c.Step, .int .i64 c.Via, .int .i64 c.Turn, .int .i64 c.Against] rfl rfl rfl (fun g1 a w hf hs => ?_)
  refine S.val hf hs (v := .int .i64 0) rfl rfl rfl (V.pure rfl) (fun a hf => ?_)
  refine S.val hf hs (v := .int .i64 0) rfl rfl rfl (V.pure rfl) (fun a hf => ?_)
  refine R.nil ?_
  refine X.then_ ?_
  refine wp_seq ?_
  refine wp_seq ?_
  refine R.list ?_
  refine S.val hf hs (v := .int .i64 along) rfl rfl rfl (V.pure rfl) (fun a hf => ?_)
  refine S.val hf hs (v := .bool (along == 3)) rfl rfl rfl (V.pure rfl) (fun a hf => ?_)
  refine R.nil ?_
  refine X.then_ ?_
  refine C.cond hf (b := along == 3) rfl (fun hc => ?_) (fun hc => ?_)
  · replace h := h.1 hc
    refine wp_seq ?_
    refine R.list ?_
    refine S.val hf hs (v := .pointer (some ⟨g1, 1, none⟩)) rfl rfl rfl (V.fieldBox rfl rfl Try.runUnderlying26 rfl Try.sizeOf3 rfl rfl) (fun a hf => ?_)
    refine S.val hf hs (v := .int .i64 c.Via) rfl rfl rfl (V.loadBox 0 rfl rfl rfl Try.isAgg3 Try.sizeOf3 rfl rfl) (fun a hf => ?_)
    refine S.val hf hs (v := .int .i64 last) rfl rfl rfl (V.pure rfl) (fun a hf => ?_)
    refine S.val hf hs (v := .int .i64 c.Via) rfl rfl rfl (V.pure rfl) (fun a hf => ?_)
    refine S.val hf hs (v := .int .i64 last) rfl rfl rfl (V.pure rfl) (fun a hf => ?_)
    refine R.nil ?_
    refine X.then_ ?_
    refine wp_ret ?_
    refine X.then_ret ?_
    exact L.ret hf (run_results2 Try.results82 (ResIs.tmp hf rfl) (ResIs.tmp hf rfl)) ⟨c.Via, last, rfl, h, hs.nil⟩
  · replace h := h.2 hc
    refine wp_skip ?_
    refine X.then_ ?_
    refine wp_seq ?_
    refine R.list ?_
    refine S.val hf hs (v := .pointer (some ⟨g1, 0, none⟩)) rfl rfl rfl (V.fieldBox rfl rfl Try.runUnderlying26 rfl Try.sizeOf3 rfl rfl) (fun a hf => ?_)
    refine S.val hf hs (v := .int .i64 c.Step) rfl rfl rfl (V.loadBox 0 rfl rfl rfl Try.isAgg3 Try.sizeOf3 rfl rfl) (fun a hf => ?_)
    refine S.val hf hs (v := .int .i64 c.Step) rfl rfl rfl (V.pure rfl) (fun a hf => ?_)
    refine R.nil ?_
    refine X.then_ ?_
    refine wp_seq ?_
    refine C.cut (J := fun a w => ∃ (n1 : Int), M_route_stepCost_k1 c last along Q n1 ∧ FrOk 41 [(2, .int .i64 last), (3, .int .i64 along), (4, .pointer (some ⟨g1, 0, none⟩)), (10, .int .i64 n1)] a ∧ Sat w0 none_ [hbox g1 26 [.int .i64 c.Step, .int .i64 c.Via, .int .i64 c.Turn, .int .i64 c.Against]] w) ?_ ?_
    · rintro a w ⟨n1, h, hf, hs⟩
      unfold M_route_stepCost_k1 at h
      refine wp_seq ?_
      refine C.cut (J := fun a w => ∃ (n2 : Int), M_route_stepCost_k2 along Q n2 ∧ FrOk 41 [(3, .int .i64 along), (10, .int .i64 n2)] a ∧ Sat w0 none_ [hbox g1 26 [.int .i64 c.Step, .int .i64 c.Via, .int .i64 c.Turn, .int .i64 c.Against]] w) ?_ ?_
      · rintro a w ⟨n2, h, hf, hs⟩
        unfold M_route_stepCost_k2 at h
        refine wp_seq ?_
        refine R.list ?_
        refine S.val hf hs (v := .int .i64 n2) rfl rfl rfl (V.pure rfl) (fun a hf => ?_)
        refine S.val hf hs (v := .int .i64 along) rfl rfl rfl (V.pure rfl) (fun a hf => ?_)
        refine S.val hf hs (v := .int .i64 n2) rfl rfl rfl (V.pure rfl) (fun a hf => ?_)
        refine S.val hf hs (v := .int .i64 along) rfl rfl rfl (V.pure rfl) (fun a hf => ?_)
        refine R.nil ?_
        refine X.then_ ?_
        refine wp_ret ?_
        exact L.ret hf (run_results2 Try.results82 (ResIs.tmp hf rfl) (ResIs.tmp hf rfl)) ⟨n2, along, rfl, h, hs.nil⟩
      · skip
        refine wp_seq ?_
        refine C.cut (J := fun a w => ∃ (c1 : Bool), M_route_stepCost_k3 c along Q n1 c1 ∧ FrOk 41 [(3, .int .i64 along), (4, .pointer (some ⟨g1, 0, none⟩)), (10, .int .i64 n1), (34, .bool c1)] a ∧ Sat w0 none_ [hbox g1 26 [.int .i64 c.Step, .int .i64 c.Via, .int .i64 c.Turn, .int .i64 c.Against]] w) ?_ ?_
        · rintro a w ⟨c1, h, hf, hs⟩
          unfold M_route_stepCost_k3 at h
          refine C.cond hf (b := c1) rfl (fun hc => ?_) (fun hc => ?_)
          · replace h := h.1 hc
            refine R.list ?_
            refine S.val hf hs (v := .int .i64 n1) rfl rfl rfl (V.pure rfl) (fun a hf => ?_)
            refine S.val hf hs (v := .pointer (some ⟨g1, 2, none⟩)) rfl rfl rfl (V.fieldBox rfl rfl Try.runUnderlying26 rfl Try.sizeOf3 rfl rfl) (fun a hf => ?_)
            refine S.val hf hs (v := .int .i64 c.Turn) rfl rfl rfl (V.loadBox 0 rfl rfl rfl Try.isAgg3 Try.sizeOf3 rfl rfl) (fun a hf => ?_)
            refine S.val hf hs (v := .int .i64 (w64 (n1 + c.Turn))) rfl rfl rfl (V.pure rfl) (fun a hf => ?_)
            refine S.val hf hs (v := .int .i64 (w64 (n1 + c.Turn))) rfl rfl rfl (V.pure rfl) (fun a hf => ?_)
            refine R.nil ?_
            refine X.then_ ?_
            exact ⟨(w64 (n1 + c.Turn)), h, ((hf.nil.cons (hf.get 10 _ rfl)).cons (hf.get 3 _ rfl)), hs⟩
          · replace h := h.2 hc
            refine wp_skip ?_
            refine X.then_ ?_
            exact ⟨n1, h, ((hf.nil.cons (hf.get 10 _ rfl)).cons (hf.get 3 _ rfl)), hs⟩
        · skip
          refine R.list ?_
          refine S.val hf hs (v := .int .i64 last) rfl rfl rfl (V.pure rfl) (fun a hf => ?_)
          refine S.val hf hs (v := .bool (last != 0)) rfl rfl rfl (V.pure rfl) (fun a hf => ?_)
          refine S.split hf hs (b := last != 0) rfl rfl rfl (V.pure rfl) (fun hc a hf => ?_) (fun hc a hf => ?_)
          · replace h := h.1 hc
            refine S.val hf hs (v := .int .i64 last) rfl rfl rfl (V.pure rfl) (fun a hf => ?_)
            refine S.val hf hs (v := .int .i64 along) rfl rfl rfl (V.pure rfl) (fun a hf => ?_)
            refine S.val hf hs (v := .bool (last != along)) rfl rfl rfl (V.pure rfl) (fun a hf => ?_)
            refine S.val hf hs (v := .bool (last != along)) rfl rfl rfl (V.pure rfl) (fun a hf => ?_)
            refine R.nil ?_
            refine X.then_ ?_
            exact ⟨(last != along), h, ((((hf.nil.cons (hf.get 34 _ rfl)).cons (hf.get 10 _ rfl)).cons (hf.get 4 _ rfl)).cons (hf.get 3 _ rfl)), hs⟩
          · replace h := h.2 hc
            refine S.skip hf rfl rfl rfl (fun a hf => ?_)
            refine S.skip hf rfl rfl rfl (fun a hf => ?_)
            refine S.skip hf rfl rfl rfl (fun a hf => ?_)
            refine S.val hf hs (v := .bool false) rfl rfl rfl (V.pure rfl) (fun a hf => ?_)
            refine R.nil ?_
            refine X.then_ ?_
            exact ⟨false, h, ((((hf.nil.cons (hf.get 34 _ rfl)).cons (hf.get 10 _ rfl)).cons (hf.get 4 _ rfl)).cons (hf.get 3 _ rfl)), hs⟩
    · skip
      refine wp_seq ?_
      refine R.list ?_
      refine S.val hf hs (v := .int .i64 layer) rfl rfl rfl (V.pure rfl) (fun a hf => ?_)
      refine S.val hf hs (v := .int .i64 (layer.tmod 2)) rfl rfl rfl (V.rem rfl rfl rfl (by decide)) (fun a hf => ?_)
      refine S.val hf hs (v := .bool ((layer.tmod 2) == 0)) rfl rfl rfl (V.pure rfl) (fun a hf => ?_)
      refine S.val hf hs (v := .int .i64 along) rfl rfl rfl (V.pure rfl) (fun a hf => ?_)
      refine S.val hf hs (v := .bool (along == 2)) rfl rfl rfl (V.pure rfl) (fun a hf => ?_)
      refine S.val hf hs (v := .bool (((layer.tmod 2) == 0) == (along == 2))) rfl rfl rfl (V.boolEq rfl rfl rfl Try.underlying4 rfl) (fun a hf => ?_)
      refine R.nil ?_
      refine X.then_ ?_
      refine C.cond hf (b := ((layer.tmod 2) == 0) == (along == 2)) rfl (fun hc => ?_) (fun hc => ?_)
      · replace h := h.1 hc
        refine R.list ?_
        refine S.val hf hs (v := .int .i64 c.Step) rfl rfl rfl (V.pure rfl) (fun a hf => ?_)
        refine S.val hf hs (v := .pointer (some ⟨g1, 3, none⟩)) rfl rfl rfl (V.fieldBox rfl rfl Try.runUnderlying26 rfl Try.sizeOf3 rfl rfl) (fun a hf => ?_)
        refine S.val hf hs (v := .int .i64 c.Against) rfl rfl rfl (V.loadBox 0 rfl rfl rfl Try.isAgg3 Try.sizeOf3 rfl rfl) (fun a hf => ?_)
        refine S.val hf hs (v := .int .i64 (w64 (c.Step + c.Against))) rfl rfl rfl (V.pure rfl) (fun a hf => ?_)
        refine S.val hf hs (v := .int .i64 (w64 (c.Step + c.Against))) rfl rfl rfl (V.pure rfl) (fun a hf => ?_)
        refine R.nil ?_
        refine X.then_ ?_
        exact ⟨(w64 (c.Step + c.Against)), h, ((((hf.nil.cons (hf.get 10 _ rfl)).cons (hf.get 4 _ rfl)).cons (hf.get 3 _ rfl)).cons (hf.get 2 _ rfl)), hs⟩
      · replace h := h.2 hc
        refine wp_skip ?_
        refine X.then_ ?_
        exact ⟨c.Step, h, ((((hf.nil.cons (hf.get 10 _ rfl)).cons (hf.get 4 _ rfl)).cons (hf.get 3 _ rfl)).cons (hf.get 2 _ rfl)), hs⟩

set_option linter.unusedVariables false
def M_route_checkWay_k2 (Q : Int → Prop) (xk1 : Cell) (m2 : List (Cell × Bool)) (next1 : List (Cell × Bool) → Prop) (c1 : Bool) : Prop :=
  cnd c1 (Q 3) (cnd ((mget m2 xk1).getD false) (Q 7) (next1 (mput m2 xk1 true)))
def M_route_checkWay_L1 (g : Grid) (no : (List Bool)) (w_ : (List Cell)) (Q : Int → Prop) (k1 : Nat) (xk1 : Cell) (m2 : List (Cell × Bool)) (next1 : List (Cell × Bool) → Prop) : Prop :=
  M_route_isCell g xk1 fun y1 => cnd (!y1) (Q 1) (M_route_number g xk1 fun y2 => idx no y2 fun x1 => cnd x1 (Q 14) (cnd (decide ((k1 : Int) > 0)) (idx w_ (w64 ((k1 : Int) - 1)) fun x2 => M_route_axis x2 xk1 fun y3 => M_route_checkWay_k2 Q xk1 m2 next1 (y3 == 0)) (M_route_checkWay_k2 Q xk1 m2 next1 false)))
def M_route_checkWay (g : Grid) (no : (List Bool)) (w_ : (List Cell)) (Q : Int → Prop) : Prop :=
  cnd ((w_.length : Int) == 0) (Q 9) (cnd (decide ((w_.length : Int) > 40000)) (Q 2) (forIn' (fun k x (s : List (Cell × Bool)) next => M_route_checkWay_L1 g no w_ Q k x s (fun m2 => next m2)) (fun (s : List (Cell × Bool)) => (fun (m2 : List (Cell × Bool)) => Q 0) s) w_ 0 ([] : List (Cell × Bool))))
set_option maxHeartbeats 1000000 in
theorem R_route_checkWay (g : Grid) (no : (List Bool)) (w_ : (List Cell)) (w0 : World) (g_BlockedA : Option Addr) (g_BlockedC : Nat) (hv_g_Blocked : View w0 (old w0 none_) g_BlockedA g_BlockedC g.Blocked) (noA : Option Addr) (noC : Nat) (hv_no : View w0 (old w0 none_) noA noC no) (w_A : Option Addr) (w_C : Nat) (hv_w_ : View w0 (old w0 none_) w_A w_C w_) (Q : Int → Prop) (h : M_route_checkWay g no w_ Q) :
    Ret Try.prog 48 #[.agg #[.int .i64 g.W, .int .i64 g.H, .int .i64 g.Layers, .slice g_BlockedA g.Blocked.length g_BlockedC], .slice noA no.length noC, .slice w_A w_.length w_C] w0 fun v w' => ∃ (r0 : Int), v = .int .i64 r0 ∧ Q r0 ∧ Sat w0 none_ [] w' := by
  refine fn_enter Try.func48 rfl Try.ntmps48 rfl (fs := [(0, .agg #[.int .i64 g.W, .int .i64 g.H, .int .i64 g.Layers, .slice g_BlockedA g.Blocked.length g_BlockedC]), (1, .slice noA no.length noC), (2, .slice w_A w_.length w_C)]) rfl (fun a hf => ?_)
  have hs := Sat.start w0 none_
  unfold M_route_checkWay at h
  refine wp_seq ?_
  refine R.list ?_
  refine S.box hf hs rfl rfl rfl [.int .i64 g.W, .int .i64 g.H, .int .i64 g.Layers, .slice g_BlockedA g.Blocked.length g_BlockedC] rfl rfl rfl (fun g1 a w hf hs => ?_)
  refine S.val hf hs (v := .int .i64 0) rfl rfl rfl (V.pure rfl) (fun a hf => ?_)
  refine R.nil ?_
  refine X.then_ ?_
  refine wp_seq ?_
  refine wp_seq ?_
  refine R.list ?_
  refine S.val hf hs (v := .slice w_A w_.length w_C) rfl rfl rfl (V.pure rfl) (fun a hf => ?_)
  refine S.val hf hs (v := .int .i64 (w_.length : Int)) rfl rfl rfl (V.len rfl rfl Try.runUnderlying22) (fun a hf => ?_)
  refine S.val hf hs (v := .bool ((w_.length : Int) == 0)) rfl rfl rfl (V.pure rfl) (fun a hf => ?_)
  refine R.nil ?_
  refine X.then_ ?_
  refine C.cond hf (b := (w_.length : Int) == 0) rfl (fun hc => ?_) (fun hc => ?_)
  · replace h := h.1 hc
    refine wp_seq ?_
    refine R.list ?_
    refine S.val hf hs (v := .int .i64 9) rfl rfl rfl (V.pure rfl) (fun a hf => ?_)
    refine R.nil ?_
    refine X.then_ ?_
    refine wp_ret ?_
    refine X.then_ret ?_
    exact L.ret hf (run_results1 Try.results48 (ResIs.tmp hf rfl)) ⟨9, rfl, h, hs.nil⟩
  · replace h := h.2 hc
    refine wp_skip ?_
    refine X.then_ ?_
    refine wp_seq ?_
    refine wp_seq ?_
    refine R.list ?_
    refine S.val hf hs (v := .slice w_A w_.length w_C) rfl rfl rfl (V.pure rfl) (fun a hf => ?_)
    refine S.val hf hs (v := .int .i64 (w_.length : Int)) rfl rfl rfl (V.len rfl rfl Try.runUnderlying22) (fun a hf => ?_)
    refine S.val hf hs (v := .bool (decide ((w_.length : Int) > 40000))) rfl rfl rfl (V.pure rfl) (fun a hf => ?_)
    refine R.nil ?_
    refine X.then_ ?_
    refine C.cond hf (b := decide ((w_.length : Int) > 40000)) rfl (fun hc => ?_) (fun hc => ?_)
    · replace h := h.1 hc
      refine wp_seq ?_
      refine R.list ?_
      refine S.val hf hs (v := .int .i64 2) rfl rfl rfl (V.pure rfl) (fun a hf => ?_)
      refine R.nil ?_
      refine X.then_ ?_
      refine wp_ret ?_
      refine X.then_ret ?_
      exact L.ret hf (run_results1 Try.results48 (ResIs.tmp hf rfl)) ⟨2, rfl, h, hs.nil⟩
    · replace h := h.2 hc
      refine wp_skip ?_
      refine X.then_ ?_
      refine wp_seq ?_
      refine R.list ?_
      refine S.makeMap hf hs rfl rfl rfl ek28 ek4 rfl (fun g2 a w hf hs => ?_)
      refine S.val hf hs (v := .map (some g2)) rfl rfl rfl (V.pure rfl) (fun a hf => ?_)
      refine R.nil ?_
      refine X.then_ ?_
      refine wp_seq ?_
      refine wp_seq ?_
      refine R.list ?_
      refine S.val hf hs (v := .slice w_A w_.length w_C) rfl rfl rfl (V.pure rfl) (fun a hf => ?_)
      refine S.val hf hs (v := .int .i64 (w_.length : Int)) rfl rfl rfl (V.len rfl rfl Try.runUnderlying22) (fun a hf => ?_)
      refine S.val hf hs (v := .int .i64 0) rfl rfl rfl (V.pure rfl) (fun a hf => ?_)
      refine R.nil ?_
      refine X.then_ ?_
      refine wp_block ?_
      have hlenk1 := hv_w_.len64
      refine C.range (fun (ll : List Cell) a w => ∃ (k1 : Nat) (m2 : List (Cell × Bool)), w_.drop k1 = ll ∧ k1 + ll.length = w_.length ∧ forIn' (fun k x (s : List (Cell × Bool)) next => M_route_checkWay_L1 g no w_ Q k x s (fun m2 => next m2)) (fun (s : List (Cell × Bool)) => (fun (m2 : List (Cell × Bool)) => Q 0) s) ll k1 m2 ∧ FrOk 56 [(19, .int .i64 (k1 : Int)), (1, .slice noA no.length noC), (2, .slice w_A w_.length w_C), (3, .pointer (some ⟨g1, 0, none⟩)), (7, .map (some g2)), (17, .slice w_A w_.length w_C), (18, .int .i64 (w_.length : Int))] a ∧ Sat w0 none_ [hmap g2 ek28 ek4 m2, hbox g1 24 [.int .i64 g.W, .int .i64 g.H, .int .i64 g.Layers, .slice g_BlockedA g.Blocked.length g_BlockedC]] w) w_ ⟨0, ([] : List (Cell × Bool)), rfl, Nat.zero_add _, h, (((((((hf.nil.cons (hf.get 18 _ rfl)).cons (hf.get 17 _ rfl)).cons (hf.get 7 _ rfl)).cons (hf.get 3 _ rfl)).cons (hf.get 2 _ rfl)).cons (hf.get 1 _ rfl)).cons (hf.get 19 _ rfl)), hs⟩ ?_
      clear h hf hs
      rintro llk1 a w ⟨k1, m2, hlk1, hkk1, h, hf, hs⟩
      cases llk1 with
      | nil =>
        have hc := range_done hkk1
        replace h : (fun (m2 : List (Cell × Bool)) => Q 0) m2 := h
        refine wp_seq ?_
        refine R.list ?_
        refine S.val hf hs (v := .bool false) rfl rfl rfl (V.cmp false rfl rfl rfl rfl hc) (fun a hf => ?_)
        refine R.nil ?_
        refine X.then_ ?_
        refine wp_seq ?_
        refine C.no hf rfl ?_
        refine wp_exit ?_
        refine X.then_exit ?_
        refine X.then_exit ?_
        refine X.blk_exit ?_
        refine X.then_ ?_
        refine wp_seq ?_
        refine R.list ?_
        refine S.val hf hs (v := .int .i64 0) rfl rfl rfl (V.pure rfl) (fun a hf => ?_)
        refine R.nil ?_
        refine X.then_ ?_
        refine wp_ret ?_
        exact L.ret hf (run_results1 Try.results48 (ResIs.tmp hf rfl)) ⟨0, rfl, h, hs.nil⟩
      | cons xk1 llk1 =>
        have hltk1 := range_lt hkk1; have hc := range_go hkk1; have hxk1 := range_get hlk1
        obtain ⟨next1, hnext1⟩ : ∃ X : List (Cell × Bool) → Prop, X = (fun m2 => forIn' (fun k x (s : List (Cell × Bool)) next => M_route_checkWay_L1 g no w_ Q k x s (fun m2 => next m2)) (fun (s : List (Cell × Bool)) => (fun (m2 : List (Cell × Bool)) => Q 0) s) llk1 (k1 + 1) m2) := ⟨_, rfl⟩
        replace h : M_route_checkWay_L1 g no w_ Q k1 xk1 m2 next1 := by rw [hnext1]; exact h
        unfold M_route_checkWay_L1 at h
        refine wp_seq ?_
        refine R.list ?_
        refine S.val hf hs (v := .bool true) rfl rfl rfl (V.cmp true rfl rfl rfl rfl hc) (fun a hf => ?_)
        refine R.nil ?_
        refine X.then_ ?_
        refine wp_seq ?_
        refine C.yes hf rfl ?_
        refine wp_skip ?_
        refine X.then_ ?_
        refine wp_seq ?_
        refine wp_block ?_
        refine wp_seq ?_
        refine R.list ?_
        refine S.val hf hs (v := .int .i64 (k1 : Int)) rfl rfl rfl (V.pure rfl) (fun a hf => ?_)
        refine S.val hf hs (v := elemPtr w_A (k1 * 3)) rfl rfl rfl (V.index rfl rfl rfl Try.runUnderlying22 Try.sizeOf28 (hv_w_.some_ (lt_of_get hxk1)) (Int.natCast_nonneg _) (lt_of_get hxk1) rfl) (fun a hf => ?_)
        refine S.val hf hs (v := .agg #[.int .i64 xk1.X, .int .i64 xk1.Y, .int .i64 xk1.Layer]) rfl rfl rfl (V.loadEl (off := 0) (Ag.args _ _ _) (hv_w_.flat hxk1) rfl rfl rfl Try.isAgg28 Try.sizeOf28 rfl rfl) (fun a hf => ?_)
        refine S.alloc hf hs rfl rfl rfl [.int .i64 0, .int .i64 0, .int .i64 0] rfl Try.zeroValue28 rfl (fun g3 a w hf hs => ?_)
        refine S.val hf hs (v := .int .i64 (k1 : Int)) rfl rfl rfl (V.pure rfl) (fun a hf => ?_)
        refine S.storeBox 0 hf hs rfl rfl [.int .i64 xk1.X, .int .i64 xk1.Y, .int .i64 xk1.Layer] [.int .i64 xk1.X, .int .i64 xk1.Y, .int .i64 xk1.Layer] rfl rfl rfl rfl rfl Try.sizeOf28 rfl rfl rfl rfl (fun a w hf hs => ?_)
        refine R.nil ?_
        refine X.then_ ?_
        refine wp_seq ?_
        refine wp_block ?_
        refine wp_seq ?_
        refine R.list ?_
        refine S.val hf hs (v := .agg #[.int .i64 g.W, .int .i64 g.H, .int .i64 g.Layers, .slice g_BlockedA g.Blocked.length g_BlockedC]) rfl rfl rfl (V.loadBox 2 rfl rfl rfl Try.isAgg24 Try.sizeOf24 rfl rfl) (fun a hf => ?_)
        refine S.val hf hs (v := .agg #[.int .i64 xk1.X, .int .i64 xk1.Y, .int .i64 xk1.Layer]) rfl rfl rfl (V.loadBox 0 rfl rfl rfl Try.isAgg28 Try.sizeOf28 rfl rfl) (fun a hf => ?_)
        refine S.call hf rfl rfl rfl (call_fn (vs := [.agg #[.int .i64 g.W, .int .i64 g.H, .int .i64 g.Layers, .slice g_BlockedA g.Blocked.length g_BlockedC], .agg #[.int .i64 xk1.X, .int .i64 xk1.Y, .int .i64 xk1.Layer]]) rfl rfl rfl Try.call54) (R_route_isCell g xk1 _ g_BlockedA g_BlockedC ((Ag.args _ _ _).view hv_g_Blocked hs) _ h) (fun v a w' hf hr => ?_)
        obtain ⟨y1, rfl, h2, hs2⟩ := hr
        replace h := h2; replace hs := hs.call hs2; clear h2 hs2
        refine S.val hf hs (v := .bool (!y1)) rfl rfl rfl (V.pure rfl) (fun a hf => ?_)
        refine S.val hf hs (v := .bool (!y1)) rfl rfl rfl (V.pure rfl) (fun a hf => ?_)
        refine R.nil ?_
        refine X.then_ ?_
        refine C.cond hf (b := !y1) rfl (fun hc => ?_) (fun hc => ?_)
        · replace h := h.1 hc
          refine wp_seq ?_
          refine R.list ?_
          refine S.val hf hs (v := .int .i64 1) rfl rfl rfl (V.pure rfl) (fun a hf => ?_)
          refine R.nil ?_
          refine X.then_ ?_
          refine wp_ret ?_
          refine X.blk_ret ?_
          refine X.then_ret ?_
          refine X.blk_ret ?_
          refine X.then_ret ?_
          refine X.then_ret ?_
          refine X.blk_ret ?_
          refine X.then_ret ?_
          exact L.ret hf (run_results1 Try.results48 (ResIs.tmp hf rfl)) ⟨1, rfl, h, hs.nil⟩
        · replace h := h.2 hc
          refine wp_seq ?_
          refine R.list ?_
          refine S.val hf hs (v := .slice noA no.length noC) rfl rfl rfl (V.pure rfl) (fun a hf => ?_)
          refine S.val hf hs (v := .agg #[.int .i64 g.W, .int .i64 g.H, .int .i64 g.Layers, .slice g_BlockedA g.Blocked.length g_BlockedC]) rfl rfl rfl (V.loadBox 2 rfl rfl rfl Try.isAgg24 Try.sizeOf24 rfl rfl) (fun a hf => ?_)
          refine S.val hf hs (v := .agg #[.int .i64 xk1.X, .int .i64 xk1.Y, .int .i64 xk1.Layer]) rfl rfl rfl (V.loadBox 0 rfl rfl rfl Try.isAgg28 Try.sizeOf28 rfl rfl) (fun a hf => ?_)
          refine S.call hf rfl rfl rfl (call_fn (vs := [.agg #[.int .i64 g.W, .int .i64 g.H, .int .i64 g.Layers, .slice g_BlockedA g.Blocked.length g_BlockedC], .agg #[.int .i64 xk1.X, .int .i64 xk1.Y, .int .i64 xk1.Layer]]) rfl rfl rfl Try.call36) (R_route_number g xk1 _ g_BlockedA g_BlockedC ((Ag.args _ _ _).view hv_g_Blocked hs) _ h) (fun v a w' hf hr => ?_)
          obtain ⟨y2, rfl, h2, hs2⟩ := hr
          replace h := h2; replace hs := hs.call hs2; clear h2 hs2
          obtain ⟨h0x1, x1, hx1, h⟩ := h
          refine S.val hf hs (v := elemPtr noA (y2.toNat * 1)) rfl rfl rfl (V.index rfl rfl rfl Try.runUnderlying66 Try.sizeOf4 (hv_no.some_ (lt_of_get hx1)) h0x1 (lt_of_get hx1) rfl) (fun a hf => ?_)
          refine S.val hf hs (v := .bool x1) rfl rfl rfl (V.loadEl (off := 0) (Ag.args _ _ _) (hv_no.flat hx1) rfl rfl rfl Try.isAgg4 Try.sizeOf4 rfl rfl) (fun a hf => ?_)
          refine S.val hf hs (v := .bool x1) rfl rfl rfl (V.pure rfl) (fun a hf => ?_)
          refine R.nil ?_
          refine X.then_ ?_
          refine C.cond hf (b := x1) rfl (fun hc => ?_) (fun hc => ?_)
          · replace h := h.1 hc
            refine wp_seq ?_
            refine R.list ?_
            refine S.val hf hs (v := .int .i64 14) rfl rfl rfl (V.pure rfl) (fun a hf => ?_)
            refine R.nil ?_
            refine X.then_ ?_
            refine wp_ret ?_
            refine X.blk_ret ?_
            refine X.then_ret ?_
            refine X.blk_ret ?_
            refine X.then_ret ?_
            refine X.then_ret ?_
            refine X.blk_ret ?_
            refine X.then_ret ?_
            exact L.ret hf (run_results1 Try.results48 (ResIs.tmp hf rfl)) ⟨14, rfl, h, hs.nil⟩
          · replace h := h.2 hc
            refine wp_seq ?_
            refine C.cut (J := fun a w => ∃ (c1 : Bool), M_route_checkWay_k2 Q xk1 m2 next1 c1 ∧ FrOk 56 [(1, .slice noA no.length noC), (2, .slice w_A w_.length w_C), (3, .pointer (some ⟨g1, 0, none⟩)), (7, .map (some g2)), (9, .pointer (some ⟨g3, 0, none⟩)), (17, .slice w_A w_.length w_C), (18, .int .i64 (w_.length : Int)), (19, .int .i64 (k1 : Int)), (36, .bool c1)] a ∧ Sat w0 none_ [hbox g3 28 [.int .i64 xk1.X, .int .i64 xk1.Y, .int .i64 xk1.Layer], hmap g2 ek28 ek4 m2, hbox g1 24 [.int .i64 g.W, .int .i64 g.H, .int .i64 g.Layers, .slice g_BlockedA g.Blocked.length g_BlockedC]] w) ?_ ?_
            · rintro a w ⟨c1, h, hf, hs⟩
              unfold M_route_checkWay_k2 at h
              refine C.cond hf (b := c1) rfl (fun hc => ?_) (fun hc => ?_)
              · replace h := h.1 hc
                refine wp_seq ?_
                refine R.list ?_
                refine S.val hf hs (v := .int .i64 3) rfl rfl rfl (V.pure rfl) (fun a hf => ?_)
                refine R.nil ?_
                refine X.then_ ?_
                refine wp_ret ?_
                refine X.blk_ret ?_
                refine X.then_ret ?_
                refine X.blk_ret ?_
                refine X.then_ret ?_
                refine X.then_ret ?_
                refine X.blk_ret ?_
                refine X.then_ret ?_
                exact L.ret hf (run_results1 Try.results48 (ResIs.tmp hf rfl)) ⟨3, rfl, h, hs.nil⟩
              · replace h := h.2 hc
                refine wp_seq ?_
                refine R.list ?_
                refine S.val hf hs (v := .map (some g2)) rfl rfl rfl (V.pure rfl) (fun a hf => ?_)
                refine S.val hf hs (v := .agg #[.int .i64 xk1.X, .int .i64 xk1.Y, .int .i64 xk1.Layer]) rfl rfl rfl (V.loadBox 0 rfl rfl rfl Try.isAgg28 Try.sizeOf28 rfl rfl) (fun a hf => ?_)
                refine S.val hf hs (v := .bool ((mget m2 xk1).getD false)) rfl rfl rfl (V.lookup 1 rfl (k := xk1) (u := ((mget m2 xk1).getD false)) (z := false) rfl rfl rfl Try.runUnderlying110 key28 Try.zeroValue4 rfl rfl) (fun a hf => ?_)
                refine S.val hf hs (v := .bool ((mget m2 xk1).getD false)) rfl rfl rfl (V.pure rfl) (fun a hf => ?_)
                refine R.nil ?_
                refine X.then_ ?_
                refine C.cond hf (b := ((mget m2 xk1).getD false)) rfl (fun hc => ?_) (fun hc => ?_)
                · replace h := h.1 hc
                  refine wp_seq ?_
                  refine R.list ?_
                  refine S.val hf hs (v := .int .i64 7) rfl rfl rfl (V.pure rfl) (fun a hf => ?_)
                  refine R.nil ?_
                  refine X.then_ ?_
                  refine wp_ret ?_
                  refine X.blk_ret ?_
                  refine X.then_ret ?_
                  refine X.blk_ret ?_
                  refine X.then_ret ?_
                  refine X.then_ret ?_
                  refine X.blk_ret ?_
                  refine X.then_ret ?_
                  exact L.ret hf (run_results1 Try.results48 (ResIs.tmp hf rfl)) ⟨7, rfl, h, hs.nil⟩
                · replace h := h.2 hc
                  refine wp_skip ?_
                  refine X.blk ?_
                  refine X.then_ ?_
                  refine R.list ?_
                  refine S.val hf hs (v := .map (some g2)) rfl rfl rfl (V.pure rfl) (fun a hf => ?_)
                  refine S.val hf hs (v := .agg #[.int .i64 xk1.X, .int .i64 xk1.Y, .int .i64 xk1.Layer]) rfl rfl rfl (V.loadBox 0 rfl rfl rfl Try.isAgg28 Try.sizeOf28 rfl rfl) (fun a hf => ?_)
                  refine S.mapUpdate 1 hf hs rfl rfl rfl xk1 true rfl rfl rfl rfl Try.runUnderlying110 key28 (fun a w hf hs => ?_)
                  refine R.nil ?_
                  refine X.blk ?_
                  refine X.then_ ?_
                  refine R.list ?_
                  refine S.val hf hs (v := .int .i64 ((k1 + 1 : Nat) : Int)) rfl rfl rfl (V.incr rfl rfl rfl hltk1 hlenk1) (fun a hf => ?_)
                  refine S.val hf hs (v := .int .i64 ((k1 + 1 : Nat) : Int)) rfl rfl rfl (V.pure rfl) (fun a hf => ?_)
                  refine R.nil ?_
                  refine X.then_ ?_
                  exact ⟨xk1, llk1, rfl, k1 + 1, (mput m2 xk1 true), range_drop hlk1, range_len hkk1, (by rw [hnext1] at h; exact h), (((((((hf.nil.cons (hf.get 18 _ rfl)).cons (hf.get 17 _ rfl)).cons (hf.get 7 _ rfl)).cons (hf.get 3 _ rfl)).cons (hf.get 2 _ rfl)).cons (hf.get 1 _ rfl)).cons (hf.get 19 _ rfl)), hs.drop⟩
            · skip
              refine H.start (S := Sat w0 none_ [hbox g3 28 [.int .i64 xk1.X, .int .i64 xk1.Y, .int .i64 xk1.Layer], hmap g2 ek28 ek4 m2, hbox g1 24 [.int .i64 g.W, .int .i64 g.H, .int .i64 g.Layers, .slice g_BlockedA g.Blocked.length g_BlockedC]]) mo ?_
              replace hs := hs.drew
              refine H.val hf hs (v := .int .i64 (k1 : Int)) (i := 0) rfl rfl rfl rfl (by kernel_rfl) (by kernel_rfl) (by kernel_rfl) (V.pure rfl) (fun a hf => ?_)
              refine H.val hf hs (v := .bool (decide ((k1 : Int) > 0))) (i := 1) rfl rfl rfl rfl (by kernel_rfl) (by kernel_rfl) (by kernel_rfl) (V.pure rfl) (fun a hf => ?_)
              refine H.split hf hs (b := decide ((k1 : Int) > 0)) (i := 2) rfl rfl rfl rfl (by kernel_rfl) (by kernel_rfl) (by kernel_rfl) (V.pure rfl) (fun hc a hf => ?_) (fun hc a hf => ?_)
              · replace h := h.1 hc
                refine H.val hf hs (v := .slice w_A w_.length w_C) (i := 3) rfl rfl rfl rfl (by kernel_rfl) (by kernel_rfl) (by kernel_rfl) (V.pure rfl) (fun a hf => ?_)
                refine H.val hf hs (v := .int .i64 (k1 : Int)) (i := 4) rfl rfl rfl rfl (by kernel_rfl) (by kernel_rfl) (by kernel_rfl) (V.pure rfl) (fun a hf => ?_)
                refine H.val hf hs (v := .int .i64 (w64 ((k1 : Int) - 1))) (i := 5) rfl rfl rfl rfl (by kernel_rfl) (by kernel_rfl) (by kernel_rfl) (V.pure rfl) (fun a hf => ?_)
                obtain ⟨h0x2, x2, hx2, h⟩ := h
                refine H.val hf hs (v := elemPtr w_A ((w64 ((k1 : Int) - 1)).toNat * 3)) (i := 6) rfl rfl rfl rfl (by kernel_rfl) (by kernel_rfl) (by kernel_rfl) (V.index rfl rfl rfl Try.runUnderlying22 Try.sizeOf28 (hv_w_.some_ (lt_of_get hx2)) h0x2 (lt_of_get hx2) rfl) (fun a hf => ?_)
                refine H.val hf hs (v := .agg #[.int .i64 x2.X, .int .i64 x2.Y, .int .i64 x2.Layer]) (i := 7) rfl rfl rfl rfl (by kernel_rfl) (by kernel_rfl) (by kernel_rfl) (V.loadEl (off := 0) (Ag.args _ _ _) (hv_w_.flat hx2) rfl rfl rfl Try.isAgg28 Try.sizeOf28 rfl rfl) (fun a hf => ?_)
                refine H.val hf hs (v := .agg #[.int .i64 xk1.X, .int .i64 xk1.Y, .int .i64 xk1.Layer]) (i := 8) rfl rfl rfl rfl (by kernel_rfl) (by kernel_rfl) (by kernel_rfl) (V.loadBox 0 rfl rfl rfl Try.isAgg28 Try.sizeOf28 rfl rfl) (fun a hf => ?_)
                refine H.one (i := 9) rfl (by kernel_rfl) ?_
                refine S.call hf rfl rfl rfl (call_fn (vs := [.agg #[.int .i64 x2.X, .int .i64 x2.Y, .int .i64 x2.Layer], .agg #[.int .i64 xk1.X, .int .i64 xk1.Y, .int .i64 xk1.Layer]]) rfl rfl rfl Try.call81) (R_route_axis x2 xk1 _  _ h) (fun v a w' hf hr => ?_)
                obtain ⟨y3, rfl, h2, hs2⟩ := hr
                replace h := h2; replace hs := hs.call hs2; clear h2 hs2
                refine R.nil ?_
                refine X.then_ ?_
                refine ⟨hs, ?_⟩
                refine H.val hf hs (v := .bool (y3 == 0)) (i := 10) rfl rfl rfl rfl (by kernel_rfl) (by kernel_rfl) (by kernel_rfl) (V.pure rfl) (fun a hf => ?_)
                refine H.val hf hs (v := .bool (y3 == 0)) (i := 11) rfl rfl rfl rfl (by kernel_rfl) (by kernel_rfl) (by kernel_rfl) (V.pure rfl) (fun a hf => ?_)
                refine H.val hf hs (v := .bool (y3 == 0)) (i := 12) rfl rfl rfl rfl (by kernel_rfl) (by kernel_rfl) (by kernel_rfl) (V.pure rfl) (fun a hf => ?_)
                refine H.done (by kernel_rfl) ?_
                refine X.then_ ?_
                exact ⟨(y3 == 0), h, (((((((((hf.nil.cons (hf.get 36 _ rfl)).cons (hf.get 19 _ rfl)).cons (hf.get 18 _ rfl)).cons (hf.get 17 _ rfl)).cons (hf.get 9 _ rfl)).cons (hf.get 7 _ rfl)).cons (hf.get 3 _ rfl)).cons (hf.get 2 _ rfl)).cons (hf.get 1 _ rfl)), hs⟩
              · replace h := h.2 hc
                refine H.skip hf hs (i := 3) rfl rfl rfl rfl (by kernel_rfl) (by kernel_rfl) (by kernel_rfl) (fun a hf => ?_)
                refine H.skip hf hs (i := 4) rfl rfl rfl rfl (by kernel_rfl) (by kernel_rfl) (by kernel_rfl) (fun a hf => ?_)
                refine H.skip hf hs (i := 5) rfl rfl rfl rfl (by kernel_rfl) (by kernel_rfl) (by kernel_rfl) (fun a hf => ?_)
                refine H.skip hf hs (i := 6) rfl rfl rfl rfl (by kernel_rfl) (by kernel_rfl) (by kernel_rfl) (fun a hf => ?_)
                refine H.skip hf hs (i := 7) rfl rfl rfl rfl (by kernel_rfl) (by kernel_rfl) (by kernel_rfl) (fun a hf => ?_)
                refine H.skip hf hs (i := 8) rfl rfl rfl rfl (by kernel_rfl) (by kernel_rfl) (by kernel_rfl) (fun a hf => ?_)
                refine H.one (i := 9) rfl (by kernel_rfl) ?_
                refine S.skip hf rfl rfl rfl (fun a hf => ?_)
                refine R.nil ?_
                refine X.then_ ?_
                refine ⟨hs, ?_⟩
                refine H.skip hf hs (i := 10) rfl rfl rfl rfl (by kernel_rfl) (by kernel_rfl) (by kernel_rfl) (fun a hf => ?_)
                refine H.val hf hs (v := .bool false) (i := 11) rfl rfl rfl rfl (by kernel_rfl) (by kernel_rfl) (by kernel_rfl) (V.pure rfl) (fun a hf => ?_)
                refine H.val hf hs (v := .bool false) (i := 12) rfl rfl rfl rfl (by kernel_rfl) (by kernel_rfl) (by kernel_rfl) (V.pure rfl) (fun a hf => ?_)
                refine H.done (by kernel_rfl) ?_
                refine X.then_ ?_
                exact ⟨false, h, (((((((((hf.nil.cons (hf.get 36 _ rfl)).cons (hf.get 19 _ rfl)).cons (hf.get 18 _ rfl)).cons (hf.get 17 _ rfl)).cons (hf.get 9 _ rfl)).cons (hf.get 7 _ rfl)).cons (hf.get 3 _ rfl)).cons (hf.get 2 _ rfl)).cons (hf.get 1 _ rfl)), hs⟩

set_option linter.unusedVariables false
def M_route_CheckWay (g : Grid) (w_ : (List Cell)) (Q : Int → Prop) : Prop :=
  M_route_CheckGrid g fun y1 => cnd (y1 != 0) (Q y1) (M_route_blocked g fun y2 => M_route_checkWay g y2 w_ fun y3 => Q y3)
set_option maxHeartbeats 1000000 in
theorem R_route_CheckWay (g : Grid) (w_ : (List Cell)) (w0 : World) (g_BlockedA : Option Addr) (g_BlockedC : Nat) (hv_g_Blocked : View w0 (old w0 none_) g_BlockedA g_BlockedC g.Blocked) (w_A : Option Addr) (w_C : Nat) (hv_w_ : View w0 (old w0 none_) w_A w_C w_) (Q : Int → Prop) (h : M_route_CheckWay g w_ Q) :
    Ret Try.prog 26 #[.agg #[.int .i64 g.W, .int .i64 g.H, .int .i64 g.Layers, .slice g_BlockedA g.Blocked.length g_BlockedC], .slice w_A w_.length w_C] w0 fun v w' => ∃ (r0 : Int), v = .int .i64 r0 ∧ Q r0 ∧ Sat w0 none_ [] w' := by
  refine fn_enter Try.func26 rfl Try.ntmps26 rfl (fs := [(0, .agg #[.int .i64 g.W, .int .i64 g.H, .int .i64 g.Layers, .slice g_BlockedA g.Blocked.length g_BlockedC]), (1, .slice w_A w_.length w_C)]) rfl (fun a hf => ?_)
  have hs := Sat.start w0 none_
  unfold M_route_CheckWay at h
  refine wp_seq ?_
  refine R.list ?_
  refine S.box hf hs rfl rfl rfl [.int .i64 g.W, .int .i64 g.H, .int .i64 g.Layers, .slice g_BlockedA g.Blocked.length g_BlockedC] rfl rfl rfl (fun g1 a w hf hs => ?_)
  refine S.val hf hs (v := .int .i64 0) rfl rfl rfl (V.pure rfl) (fun a hf => ?_)
  refine R.nil ?_
  refine X.then_ ?_
  refine wp_seq ?_
  refine wp_seq ?_
  refine R.list ?_
  refine S.val hf hs (v := .agg #[.int .i64 g.W, .int .i64 g.H, .int .i64 g.Layers, .slice g_BlockedA g.Blocked.length g_BlockedC]) rfl rfl rfl (V.loadBox 0 rfl rfl rfl Try.isAgg24 Try.sizeOf24 rfl rfl) (fun a hf => ?_)
  refine S.call hf rfl rfl rfl (call_fn (vs := [.agg #[.int .i64 g.W, .int .i64 g.H, .int .i64 g.Layers, .slice g_BlockedA g.Blocked.length g_BlockedC]]) rfl rfl rfl Try.call22) (R_route_CheckGrid g _ g_BlockedA g_BlockedC ((Ag.args _ _ _).view hv_g_Blocked hs) _ h) (fun v a w' hf hr => ?_)
  obtain ⟨y1, rfl, h2, hs2⟩ := hr
  replace h := h2; replace hs := hs.call hs2; clear h2 hs2
  refine S.val hf hs (v := .int .i64 y1) rfl rfl rfl (V.pure rfl) (fun a hf => ?_)
  refine R.nil ?_
  refine X.then_ ?_
  refine wp_seq ?_
  refine R.list ?_
  refine S.val hf hs (v := .int .i64 y1) rfl rfl rfl (V.pure rfl) (fun a hf => ?_)
  refine S.val hf hs (v := .bool (y1 != 0)) rfl rfl rfl (V.pure rfl) (fun a hf => ?_)
  refine R.nil ?_
  refine X.then_ ?_
  refine C.cond hf (b := y1 != 0) rfl (fun hc => ?_) (fun hc => ?_)
  · replace h := h.1 hc
    refine wp_seq ?_
    refine R.list ?_
    refine S.val hf hs (v := .int .i64 y1) rfl rfl rfl (V.pure rfl) (fun a hf => ?_)
    refine S.val hf hs (v := .int .i64 y1) rfl rfl rfl (V.pure rfl) (fun a hf => ?_)
    refine R.nil ?_
    refine X.then_ ?_
    refine wp_ret ?_
    refine X.then_ret ?_
    exact L.ret hf (run_results1 Try.results26 (ResIs.tmp hf rfl)) ⟨y1, rfl, h, hs.nil⟩
  · replace h := h.2 hc
    refine wp_skip ?_
    refine X.then_ ?_
    refine wp_seq ?_
    refine H.start (S := Sat w0 none_ [hbox g1 24 [.int .i64 g.W, .int .i64 g.H, .int .i64 g.Layers, .slice g_BlockedA g.Blocked.length g_BlockedC]]) mo ?_
    replace hs := hs.drew
    refine H.val hf hs (v := .agg #[.int .i64 g.W, .int .i64 g.H, .int .i64 g.Layers, .slice g_BlockedA g.Blocked.length g_BlockedC]) (i := 0) rfl rfl rfl rfl (by kernel_rfl) (by kernel_rfl) (by kernel_rfl) (V.loadBox 0 rfl rfl rfl Try.isAgg24 Try.sizeOf24 rfl rfl) (fun a hf => ?_)
    refine H.val hf hs (v := .agg #[.int .i64 g.W, .int .i64 g.H, .int .i64 g.Layers, .slice g_BlockedA g.Blocked.length g_BlockedC]) (i := 1) rfl rfl rfl rfl (by kernel_rfl) (by kernel_rfl) (by kernel_rfl) (V.loadBox 0 rfl rfl rfl Try.isAgg24 Try.sizeOf24 rfl rfl) (fun a hf => ?_)
    refine H.val hf hs (v := .slice w_A w_.length w_C) (i := 3) rfl rfl rfl rfl (by kernel_rfl) (by kernel_rfl) (by kernel_rfl) (V.pure rfl) (fun a hf => ?_)
    refine H.one (i := 2) rfl (by kernel_rfl) ?_
    refine S.call hf rfl rfl rfl (call_fn (vs := [.agg #[.int .i64 g.W, .int .i64 g.H, .int .i64 g.Layers, .slice g_BlockedA g.Blocked.length g_BlockedC]]) rfl rfl rfl Try.call49) (R_route_blocked g _ g_BlockedA g_BlockedC ((Ag.args _ _ _).view hv_g_Blocked hs) _ h) (fun v a w' hf hr => ?_)
    obtain ⟨y2, y2A, y2C, rfl, h2, hs2⟩ := hr
    replace h := h2; replace hs := hs.call hs2; clear h2 hs2
    refine R.nil ?_
    refine X.then_ ?_
    refine ⟨(hs.mask [false, true]), ?_⟩
    refine H.one (i := 4) rfl (by kernel_rfl) ?_
    refine S.call hf rfl rfl rfl (call_fn (vs := [.agg #[.int .i64 g.W, .int .i64 g.H, .int .i64 g.Layers, .slice g_BlockedA g.Blocked.length g_BlockedC], .slice y2A y2.length y2C, .slice w_A w_.length w_C]) rfl rfl rfl Try.call48) (R_route_checkWay g y2 w_ _ g_BlockedA g_BlockedC ((Ag.args _ _ _).view hv_g_Blocked hs) y2A y2C (hs.ownView 0 rfl) w_A w_C ((Ag.args _ _ _).view hv_w_ hs) _ h) (fun v a w' hf hr => ?_)
    obtain ⟨y3, rfl, h2, hs2⟩ := hr
    replace h := h2; replace hs := hs.call hs2; clear h2 hs2
    refine R.nil ?_
    refine X.then_ ?_
    refine ⟨(hs.mask [false, true]), ?_⟩
    refine H.val hf (hs.mask [false, true]) (v := .int .i64 y3) (i := 5) rfl rfl rfl rfl (by kernel_rfl) (by kernel_rfl) (by kernel_rfl) (V.pure rfl) (fun a hf => ?_)
    refine H.done (by kernel_rfl) ?_
    refine X.then_ ?_
    refine wp_ret ?_
    exact L.ret hf (run_results1 Try.results26 (ResIs.tmp hf rfl)) ⟨y3, rfl, h, hs.nil⟩

set_option linter.unusedVariables false
def M_route_costOf_L1 (c : Costs) (w_ : (List Cell)) (Q : Int → Prop) (again1 : Int → Int → Int → Prop) (n4 : Int) (n5 : Int) (n6 : Int) : Prop :=
  cnd (decide (n6 < (w_.length : Int))) (idx w_ n6 fun x1 => idx w_ (w64 (n6 - 1)) fun x2 => M_route_axis x2 x1 fun y1 => M_route_stepCost c x1.Layer n5 y1 fun y2 y3 => again1 (w64 (n4 + y2)) y3 (w64 (n6 + 1))) (Q n4)
def M_route_costOf (c : Costs) (w_ : (List Cell)) (Q : Int → Prop) : Prop :=
  lp (fun again (s : Int × Int × Int) => M_route_costOf_L1 c w_ Q (fun n4 n5 n6 => again (n4, n5, n6)) s.1 s.2.1 s.2.2) (0, 0, 1)
set_option maxHeartbeats 1000000 in
theorem R_route_costOf (c : Costs) (w_ : (List Cell)) (w0 : World) (w_A : Option Addr) (w_C : Nat) (hv_w_ : View w0 (old w0 none_) w_A w_C w_) (Q : Int → Prop) (h : M_route_costOf c w_ Q) :
    Ret Try.prog 50 #[.agg #[.int .i64 c.Step, .int .i64 c.Via, .int .i64 c.Turn, .int .i64 c.Against], .slice w_A w_.length w_C] w0 fun v w' => ∃ (r0 : Int), v = .int .i64 r0 ∧ Q r0 ∧ Sat w0 none_ [] w' := by
  refine fn_enter Try.func50 rfl Try.ntmps50 rfl (fs := [(0, .agg #[.int .i64 c.Step, .int .i64 c.Via, .int .i64 c.Turn, .int .i64 c.Against]), (1, .slice w_A w_.length w_C)]) rfl (fun a hf => ?_)
  have hs := Sat.start w0 none_
  unfold M_route_costOf at h
  refine wp_seq ?_
  refine R.list ?_
  refine S.box hf hs rfl rfl rfl [.int .i64 c.Step, .int .i64 c.Via, .int .i64 c.Turn, .int .i64 c.Against] rfl rfl rfl (fun g1 a w hf hs => ?_)
  refine S.val hf hs (v := .int .i64 0) rfl rfl rfl (V.pure rfl) (fun a hf => ?_)
  refine R.nil ?_
  refine X.then_ ?_
  refine wp_seq ?_
  refine R.list ?_
  refine S.val hf hs (v := .int .i64 0) rfl rfl rfl (V.pure rfl) (fun a hf => ?_)
  refine S.val hf hs (v := .int .i64 0) rfl rfl rfl (V.pure rfl) (fun a hf => ?_)
  refine R.nil ?_
  refine X.then_ ?_
  refine wp_seq ?_
  refine wp_seq ?_
  refine R.list ?_
  refine S.val hf hs (v := .int .i64 1) rfl rfl rfl (V.pure rfl) (fun a hf => ?_)
  refine R.nil ?_
  refine X.then_ ?_
  refine wp_block ?_
  obtain ⟨kk, h⟩ := h
  refine C.loop (fun kk a w => ∃ (n4 : Int) (n5 : Int) (n6 : Int), iterF (fun again (s : Int × Int × Int) => M_route_costOf_L1 c w_ Q (fun n4 n5 n6 => again (n4, n5, n6)) s.1 s.2.1 s.2.2) kk (n4, n5, n6) ∧ FrOk 40 [(1, .slice w_A w_.length w_C), (2, .pointer (some ⟨g1, 0, none⟩)), (5, .int .i64 n4), (6, .int .i64 n5), (7, .int .i64 n6)] a ∧ Sat w0 none_ [hbox g1 26 [.int .i64 c.Step, .int .i64 c.Via, .int .i64 c.Turn, .int .i64 c.Against]] w) kk ⟨0, 0, 1, h, (((((hf.nil.cons (hf.get 7 _ rfl)).cons (hf.get 6 _ rfl)).cons (hf.get 5 _ rfl)).cons (hf.get 2 _ rfl)).cons (hf.get 1 _ rfl)), hs⟩ (fun a w ⟨_, _, _, h, _, _⟩ => h) ?_
  clear h hf hs
  rintro kk a w ⟨n4, n5, n6, h, hf, hs⟩
  obtain ⟨again1, hagain1⟩ : ∃ X : Int → Int → Int → Prop, X = (fun n4 n5 n6 => iterF (fun again (s : Int × Int × Int) => M_route_costOf_L1 c w_ Q (fun n4 n5 n6 => again (n4, n5, n6)) s.1 s.2.1 s.2.2) kk (n4, n5, n6)) := ⟨_, rfl⟩
  replace h : M_route_costOf_L1 c w_ Q again1 n4 n5 n6 := by rw [hagain1]; exact h
  unfold M_route_costOf_L1 at h
  refine wp_seq ?_
  refine wp_seq ?_
  refine R.list ?_
  refine S.val hf hs (v := .int .i64 n6) rfl rfl rfl (V.pure rfl) (fun a hf => ?_)
  refine S.val hf hs (v := .slice w_A w_.length w_C) rfl rfl rfl (V.pure rfl) (fun a hf => ?_)
  refine S.val hf hs (v := .int .i64 (w_.length : Int)) rfl rfl rfl (V.len rfl rfl Try.runUnderlying22) (fun a hf => ?_)
  refine S.val hf hs (v := .bool (decide (n6 < (w_.length : Int)))) rfl rfl rfl (V.pure rfl) (fun a hf => ?_)
  refine R.nil ?_
  refine X.then_ ?_
  refine C.cond hf (b := decide (n6 < (w_.length : Int))) rfl (fun hc => ?_) (fun hc => ?_)
  · replace h := h.1 hc
    refine wp_skip ?_
    refine X.then_ ?_
    refine wp_seq ?_
    refine wp_block ?_
    refine wp_seq ?_
    refine R.list ?_
    refine S.val hf hs (v := .int .i64 0) rfl rfl rfl (V.pure rfl) (fun a hf => ?_)
    refine R.nil ?_
    refine X.then_ ?_
    refine wp_seq ?_
    refine H.start (S := Sat w0 none_ [hbox g1 26 [.int .i64 c.Step, .int .i64 c.Via, .int .i64 c.Turn, .int .i64 c.Against]]) mo ?_
    replace hs := hs.drew
    refine H.val hf hs (v := .agg #[.int .i64 c.Step, .int .i64 c.Via, .int .i64 c.Turn, .int .i64 c.Against]) (i := 0) rfl rfl rfl rfl (by kernel_rfl) (by kernel_rfl) (by kernel_rfl) (V.loadBox 0 rfl rfl rfl Try.isAgg26 Try.sizeOf26 rfl rfl) (fun a hf => ?_)
    refine H.val hf hs (v := .slice w_A w_.length w_C) (i := 1) rfl rfl rfl rfl (by kernel_rfl) (by kernel_rfl) (by kernel_rfl) (V.pure rfl) (fun a hf => ?_)
    refine H.val hf hs (v := .int .i64 n6) (i := 2) rfl rfl rfl rfl (by kernel_rfl) (by kernel_rfl) (by kernel_rfl) (V.pure rfl) (fun a hf => ?_)
    obtain ⟨h0x1, x1, hx1, h⟩ := h
    refine H.val hf hs (v := elemPtr w_A (n6.toNat * 3)) (i := 3) rfl rfl rfl rfl (by kernel_rfl) (by kernel_rfl) (by kernel_rfl) (V.index rfl rfl rfl Try.runUnderlying22 Try.sizeOf28 (hv_w_.some_ (lt_of_get hx1)) h0x1 (lt_of_get hx1) rfl) (fun a hf => ?_)
    refine H.val hf hs (v := elemPtr w_A (n6.toNat * 3 + 2)) (i := 4) rfl rfl rfl rfl (by kernel_rfl) (by kernel_rfl) (by kernel_rfl) (V.fieldEl rfl rfl (hv_w_.some_ (lt_of_get hx1)) Try.runUnderlying28 rfl Try.sizeOf3 rfl rfl) (fun a hf => ?_)
    refine H.val hf hs (v := .int .i64 x1.Layer) (i := 5) rfl rfl rfl rfl (by kernel_rfl) (by kernel_rfl) (by kernel_rfl) (V.loadEl (off := 2) (Ag.args _ _ _) (hv_w_.flat hx1) rfl rfl rfl Try.isAgg3 Try.sizeOf3 rfl rfl) (fun a hf => ?_)
    refine H.val hf hs (v := .int .i64 n5) (i := 6) rfl rfl rfl rfl (by kernel_rfl) (by kernel_rfl) (by kernel_rfl) (V.pure rfl) (fun a hf => ?_)
    refine H.val hf hs (v := .slice w_A w_.length w_C) (i := 7) rfl rfl rfl rfl (by kernel_rfl) (by kernel_rfl) (by kernel_rfl) (V.pure rfl) (fun a hf => ?_)
    refine H.val hf hs (v := .int .i64 n6) (i := 8) rfl rfl rfl rfl (by kernel_rfl) (by kernel_rfl) (by kernel_rfl) (V.pure rfl) (fun a hf => ?_)
    refine H.val hf hs (v := .int .i64 (w64 (n6 - 1))) (i := 9) rfl rfl rfl rfl (by kernel_rfl) (by kernel_rfl) (by kernel_rfl) (V.pure rfl) (fun a hf => ?_)
    obtain ⟨h0x2, x2, hx2, h⟩ := h
    refine H.val hf hs (v := elemPtr w_A ((w64 (n6 - 1)).toNat * 3)) (i := 10) rfl rfl rfl rfl (by kernel_rfl) (by kernel_rfl) (by kernel_rfl) (V.index rfl rfl rfl Try.runUnderlying22 Try.sizeOf28 (hv_w_.some_ (lt_of_get hx2)) h0x2 (lt_of_get hx2) rfl) (fun a hf => ?_)
    refine H.val hf hs (v := .agg #[.int .i64 x2.X, .int .i64 x2.Y, .int .i64 x2.Layer]) (i := 11) rfl rfl rfl rfl (by kernel_rfl) (by kernel_rfl) (by kernel_rfl) (V.loadEl (off := 0) (Ag.args _ _ _) (hv_w_.flat hx2) rfl rfl rfl Try.isAgg28 Try.sizeOf28 rfl rfl) (fun a hf => ?_)
    refine H.val hf hs (v := .slice w_A w_.length w_C) (i := 12) rfl rfl rfl rfl (by kernel_rfl) (by kernel_rfl) (by kernel_rfl) (V.pure rfl) (fun a hf => ?_)
    refine H.val hf hs (v := .int .i64 n6) (i := 13) rfl rfl rfl rfl (by kernel_rfl) (by kernel_rfl) (by kernel_rfl) (V.pure rfl) (fun a hf => ?_)
    refine H.val hf hs (v := elemPtr w_A (n6.toNat * 3)) (i := 14) rfl rfl rfl rfl (by kernel_rfl) (by kernel_rfl) (by kernel_rfl) (V.index rfl rfl rfl Try.runUnderlying22 Try.sizeOf28 (hv_w_.some_ (lt_of_get hx1)) h0x1 (lt_of_get hx1) rfl) (fun a hf => ?_)
    refine H.val hf hs (v := .agg #[.int .i64 x1.X, .int .i64 x1.Y, .int .i64 x1.Layer]) (i := 15) rfl rfl rfl rfl (by kernel_rfl) (by kernel_rfl) (by kernel_rfl) (V.loadEl (off := 0) (Ag.args _ _ _) (hv_w_.flat hx1) rfl rfl rfl Try.isAgg28 Try.sizeOf28 rfl rfl) (fun a hf => ?_)
    refine H.one (i := 16) rfl (by kernel_rfl) ?_
    refine S.call hf rfl rfl rfl (call_fn (vs := [.agg #[.int .i64 x2.X, .int .i64 x2.Y, .int .i64 x2.Layer], .agg #[.int .i64 x1.X, .int .i64 x1.Y, .int .i64 x1.Layer]]) rfl rfl rfl Try.call81) (R_route_axis x2 x1 _  _ h) (fun v a w' hf hr => ?_)
    obtain ⟨y1, rfl, h2, hs2⟩ := hr
    replace h := h2; replace hs := hs.call hs2; clear h2 hs2
    refine R.nil ?_
    refine X.then_ ?_
    refine ⟨hs, ?_⟩
    refine H.one (i := 17) rfl (by kernel_rfl) ?_
    refine S.call hf rfl rfl rfl (call_fn (vs := [.agg #[.int .i64 c.Step, .int .i64 c.Via, .int .i64 c.Turn, .int .i64 c.Against], .int .i64 x1.Layer, .int .i64 n5, .int .i64 y1]) rfl rfl rfl Try.call82) (R_route_stepCost c x1.Layer n5 y1 _  _ h) (fun v a w' hf hr => ?_)
    obtain ⟨y2, y3, rfl, h2, hs2⟩ := hr
    replace h := h2; replace hs := hs.call hs2; clear h2 hs2
    refine R.nil ?_
    refine X.then_ ?_
    refine ⟨hs, ?_⟩
    refine H.val hf hs (v := .tuple #[.int .i64 y2, .int .i64 y3]) (i := 18) rfl rfl rfl rfl (by kernel_rfl) (by kernel_rfl) (by kernel_rfl) (V.pure rfl) (fun a hf => ?_)
    refine H.val hf hs (v := .int .i64 y2) (i := 19) rfl rfl rfl rfl (by kernel_rfl) (by kernel_rfl) (by kernel_rfl) (V.pure rfl) (fun a hf => ?_)
    refine H.val hf hs (v := .int .i64 y3) (i := 20) rfl rfl rfl rfl (by kernel_rfl) (by kernel_rfl) (by kernel_rfl) (V.pure rfl) (fun a hf => ?_)
    refine H.val hf hs (v := .int .i64 y2) (i := 21) rfl rfl rfl rfl (by kernel_rfl) (by kernel_rfl) (by kernel_rfl) (V.pure rfl) (fun a hf => ?_)
    refine H.val hf hs (v := .int .i64 y3) (i := 22) rfl rfl rfl rfl (by kernel_rfl) (by kernel_rfl) (by kernel_rfl) (V.pure rfl) (fun a hf => ?_)
    refine H.done (by kernel_rfl) ?_
    refine X.then_ ?_
    refine R.list ?_
    refine S.val hf hs (v := .int .i64 n4) rfl rfl rfl (V.pure rfl) (fun a hf => ?_)
    refine S.val hf hs (v := .int .i64 y2) rfl rfl rfl (V.pure rfl) (fun a hf => ?_)
    refine S.val hf hs (v := .int .i64 (w64 (n4 + y2))) rfl rfl rfl (V.pure rfl) (fun a hf => ?_)
    refine S.val hf hs (v := .int .i64 (w64 (n4 + y2))) rfl rfl rfl (V.pure rfl) (fun a hf => ?_)
    refine R.nil ?_
    refine X.blk ?_
    refine X.then_ ?_
    refine R.list ?_
    refine S.val hf hs (v := .int .i64 n6) rfl rfl rfl (V.pure rfl) (fun a hf => ?_)
    refine S.val hf hs (v := .int .i64 (w64 (n6 + 1))) rfl rfl rfl (V.pure rfl) (fun a hf => ?_)
    refine S.val hf hs (v := .int .i64 (w64 (n6 + 1))) rfl rfl rfl (V.pure rfl) (fun a hf => ?_)
    refine R.nil ?_
    refine X.then_ ?_
    exact ⟨(w64 (n4 + y2)), y3, (w64 (n6 + 1)), (by rw [hagain1] at h; exact h), (((((hf.nil.cons (hf.get 7 _ rfl)).cons (hf.get 6 _ rfl)).cons (hf.get 5 _ rfl)).cons (hf.get 2 _ rfl)).cons (hf.get 1 _ rfl)), hs⟩
  · replace h := h.2 hc
    refine wp_exit ?_
    refine X.then_exit ?_
    refine X.then_exit ?_
    refine X.blk_exit ?_
    refine X.then_ ?_
    refine wp_seq ?_
    refine R.list ?_
    refine S.val hf hs (v := .int .i64 n4) rfl rfl rfl (V.pure rfl) (fun a hf => ?_)
    refine S.val hf hs (v := .int .i64 n4) rfl rfl rfl (V.pure rfl) (fun a hf => ?_)
    refine R.nil ?_
    refine X.then_ ?_
    refine wp_ret ?_
    exact L.ret hf (run_results1 Try.results50 (ResIs.tmp hf rfl)) ⟨n4, rfl, h, hs.nil⟩

set_option linter.unusedVariables false
def M_route_checkBoth (g : Grid) (c : Costs) (Q : Int → Prop) : Prop :=
  M_route_CheckGrid g fun y1 => cnd (y1 != 0) (Q y1) (M_route_CheckCosts c fun y2 => Q y2)
set_option maxHeartbeats 1000000 in
theorem R_route_checkBoth (g : Grid) (c : Costs) (w0 : World) (g_BlockedA : Option Addr) (g_BlockedC : Nat) (hv_g_Blocked : View w0 (old w0 none_) g_BlockedA g_BlockedC g.Blocked) (Q : Int → Prop) (h : M_route_checkBoth g c Q) :
    Ret Try.prog 47 #[.agg #[.int .i64 g.W, .int .i64 g.H, .int .i64 g.Layers, .slice g_BlockedA g.Blocked.length g_BlockedC], .agg #[.int .i64 c.Step, .int .i64 c.Via, .int .i64 c.Turn, .int .i64 c.Against]] w0 fun v w' => ∃ (r0 : Int), v = .int .i64 r0 ∧ Q r0 ∧ Sat w0 none_ [] w' := by
  refine fn_enter Try.func47 rfl Try.ntmps47 rfl (fs := [(0, .agg #[.int .i64 g.W, .int .i64 g.H, .int .i64 g.Layers, .slice g_BlockedA g.Blocked.length g_BlockedC]), (1, .agg #[.int .i64 c.Step, .int .i64 c.Via, .int .i64 c.Turn, .int .i64 c.Against])]) rfl (fun a hf => ?_)
  have hs := Sat.start w0 none_
  unfold M_route_checkBoth at h
  refine wp_seq ?_
  refine R.list ?_
  refine S.box hf hs rfl rfl rfl [.int .i64 g.W, .int .i64 g.H, .int .i64 g.Layers, .slice g_BlockedA g.Blocked.length g_BlockedC] rfl rfl rfl (fun g1 a w hf hs => ?_)
  refine S.box hf hs rfl rfl rfl [.int .i64 c.Step, .int .i64 c.Via, .int .i64 c.Turn, .int .i64 c.Against] rfl rfl rfl (fun g2 a w hf hs => ?_)
  refine S.val hf hs (v := .int .i64 0) rfl rfl rfl (V.pure rfl) (fun a hf => ?_)
  refine R.nil ?_
  refine X.then_ ?_
  refine wp_seq ?_
  refine wp_seq ?_
  refine R.list ?_
  refine S.val hf hs (v := .agg #[.int .i64 g.W, .int .i64 g.H, .int .i64 g.Layers, .slice g_BlockedA g.Blocked.length g_BlockedC]) rfl rfl rfl (V.loadBox 1 rfl rfl rfl Try.isAgg24 Try.sizeOf24 rfl rfl) (fun a hf => ?_)
  refine S.call hf rfl rfl rfl (call_fn (vs := [.agg #[.int .i64 g.W, .int .i64 g.H, .int .i64 g.Layers, .slice g_BlockedA g.Blocked.length g_BlockedC]]) rfl rfl rfl Try.call22) (R_route_CheckGrid g _ g_BlockedA g_BlockedC ((Ag.args _ _ _).view hv_g_Blocked hs) _ h) (fun v a w' hf hr => ?_)
  obtain ⟨y1, rfl, h2, hs2⟩ := hr
  replace h := h2; replace hs := hs.call hs2; clear h2 hs2
  refine S.val hf hs (v := .int .i64 y1) rfl rfl rfl (V.pure rfl) (fun a hf => ?_)
  refine R.nil ?_
  refine X.then_ ?_
  refine wp_seq ?_
  refine R.list ?_
  refine S.val hf hs (v := .int .i64 y1) rfl rfl rfl (V.pure rfl) (fun a hf => ?_)
  refine S.val hf hs (v := .bool (y1 != 0)) rfl rfl rfl (V.pure rfl) (fun a hf => ?_)
  refine R.nil ?_
  refine X.then_ ?_
  refine C.cond hf (b := y1 != 0) rfl (fun hc => ?_) (fun hc => ?_)
  · replace h := h.1 hc
    refine wp_seq ?_
    refine R.list ?_
    refine S.val hf hs (v := .int .i64 y1) rfl rfl rfl (V.pure rfl) (fun a hf => ?_)
    refine S.val hf hs (v := .int .i64 y1) rfl rfl rfl (V.pure rfl) (fun a hf => ?_)
    refine R.nil ?_
    refine X.then_ ?_
    refine wp_ret ?_
    refine X.then_ret ?_
    exact L.ret hf (run_results1 Try.results47 (ResIs.tmp hf rfl)) ⟨y1, rfl, h, hs.nil⟩
  · replace h := h.2 hc
    refine wp_skip ?_
    refine X.then_ ?_
    refine wp_seq ?_
    refine R.list ?_
    refine S.val hf hs (v := .agg #[.int .i64 c.Step, .int .i64 c.Via, .int .i64 c.Turn, .int .i64 c.Against]) rfl rfl rfl (V.loadBox 0 rfl rfl rfl Try.isAgg26 Try.sizeOf26 rfl rfl) (fun a hf => ?_)
    refine S.call hf rfl rfl rfl (call_fn (vs := [.agg #[.int .i64 c.Step, .int .i64 c.Via, .int .i64 c.Turn, .int .i64 c.Against]]) rfl rfl rfl Try.call24) (R_route_CheckCosts c _  _ h) (fun v a w' hf hr => ?_)
    obtain ⟨y2, rfl, h2, hs2⟩ := hr
    replace h := h2; replace hs := hs.call hs2; clear h2 hs2
    refine S.val hf hs (v := .int .i64 y2) rfl rfl rfl (V.pure rfl) (fun a hf => ?_)
    refine R.nil ?_
    refine X.then_ ?_
    refine wp_ret ?_
    exact L.ret hf (run_results1 Try.results47 (ResIs.tmp hf rfl)) ⟨y2, rfl, h, hs.nil⟩

set_option linter.unusedVariables false
def M_route_CostOf (g : Grid) (c : Costs) (w_ : (List Cell)) (Q : Int → Int → Prop) : Prop :=
  M_route_checkBoth g c fun y1 => cnd (y1 != 0) (Q 0 y1) (M_route_blocked g fun y2 => M_route_checkWay g y2 w_ fun y3 => cnd (y3 != 0) (Q 0 y3) (M_route_costOf c w_ fun y4 => Q y4 0))
set_option maxHeartbeats 1000000 in
theorem R_route_CostOf (g : Grid) (c : Costs) (w_ : (List Cell)) (w0 : World) (g_BlockedA : Option Addr) (g_BlockedC : Nat) (hv_g_Blocked : View w0 (old w0 none_) g_BlockedA g_BlockedC g.Blocked) (w_A : Option Addr) (w_C : Nat) (hv_w_ : View w0 (old w0 none_) w_A w_C w_) (Q : Int → Int → Prop) (h : M_route_CostOf g c w_ Q) :
    Ret Try.prog 20 #[.agg #[.int .i64 g.W, .int .i64 g.H, .int .i64 g.Layers, .slice g_BlockedA g.Blocked.length g_BlockedC], .agg #[.int .i64 c.Step, .int .i64 c.Via, .int .i64 c.Turn, .int .i64 c.Against], .slice w_A w_.length w_C] w0 fun v w' => ∃ (r0 : Int) (r1 : Int), v = .tuple #[.int .i64 r0, .int .i64 r1] ∧ Q r0 r1 ∧ Sat w0 none_ [] w' := by
  refine fn_enter Try.func20 rfl Try.ntmps20 rfl (fs := [(0, .agg #[.int .i64 g.W, .int .i64 g.H, .int .i64 g.Layers, .slice g_BlockedA g.Blocked.length g_BlockedC]), (1, .agg #[.int .i64 c.Step, .int .i64 c.Via, .int .i64 c.Turn, .int .i64 c.Against]), (2, .slice w_A w_.length w_C)]) rfl (fun a hf => ?_)
  have hs := Sat.start w0 none_
  unfold M_route_CostOf at h
  refine wp_seq ?_
  refine R.list ?_
  refine S.box hf hs rfl rfl rfl [.int .i64 g.W, .int .i64 g.H, .int .i64 g.Layers, .slice g_BlockedA g.Blocked.length g_BlockedC] rfl rfl rfl (fun g1 a w hf hs => ?_)
  refine S.box hf hs rfl rfl rfl [.int .i64 c.Step, .int .i64 c.Via, .int .i64 c.Turn, .int .i64 c.Against] rfl rfl rfl (fun g2 a w hf hs => ?_)
  refine S.val hf hs (v := .int .i64 0) rfl rfl rfl (V.pure rfl) (fun a hf => ?_)
  refine S.val hf hs (v := .int .i64 0) rfl rfl rfl (V.pure rfl) (fun a hf => ?_)
  refine R.nil ?_
  refine X.then_ ?_
  refine wp_seq ?_
  refine wp_seq ?_
  refine R.list ?_
  refine S.val hf hs (v := .agg #[.int .i64 g.W, .int .i64 g.H, .int .i64 g.Layers, .slice g_BlockedA g.Blocked.length g_BlockedC]) rfl rfl rfl (V.loadBox 1 rfl rfl rfl Try.isAgg24 Try.sizeOf24 rfl rfl) (fun a hf => ?_)
  refine S.val hf hs (v := .agg #[.int .i64 c.Step, .int .i64 c.Via, .int .i64 c.Turn, .int .i64 c.Against]) rfl rfl rfl (V.loadBox 0 rfl rfl rfl Try.isAgg26 Try.sizeOf26 rfl rfl) (fun a hf => ?_)
  refine S.call hf rfl rfl rfl (call_fn (vs := [.agg #[.int .i64 g.W, .int .i64 g.H, .int .i64 g.Layers, .slice g_BlockedA g.Blocked.length g_BlockedC], .agg #[.int .i64 c.Step, .int .i64 c.Via, .int .i64 c.Turn, .int .i64 c.Against]]) rfl rfl rfl Try.call47) (R_route_checkBoth g c _ g_BlockedA g_BlockedC ((Ag.args _ _ _).view hv_g_Blocked hs) _ h) (fun v a w' hf hr => ?_)
  obtain ⟨y1, rfl, h2, hs2⟩ := hr
  replace h := h2; replace hs := hs.call hs2; clear h2 hs2
  refine S.val hf hs (v := .int .i64 y1) rfl rfl rfl (V.pure rfl) (fun a hf => ?_)
  refine R.nil ?_
  refine X.then_ ?_
  refine wp_seq ?_
  refine R.list ?_
  refine S.val hf hs (v := .int .i64 y1) rfl rfl rfl (V.pure rfl) (fun a hf => ?_)
  refine S.val hf hs (v := .bool (y1 != 0)) rfl rfl rfl (V.pure rfl) (fun a hf => ?_)
  refine R.nil ?_
  refine X.then_ ?_
  refine C.cond hf (b := y1 != 0) rfl (fun hc => ?_) (fun hc => ?_)
  · replace h := h.1 hc
    refine wp_seq ?_
    refine R.list ?_
    refine S.val hf hs (v := .int .i64 y1) rfl rfl rfl (V.pure rfl) (fun a hf => ?_)
    refine S.val hf hs (v := .int .i64 0) rfl rfl rfl (V.pure rfl) (fun a hf => ?_)
    refine S.val hf hs (v := .int .i64 y1) rfl rfl rfl (V.pure rfl) (fun a hf => ?_)
    refine R.nil ?_
    refine X.then_ ?_
    refine wp_ret ?_
    refine X.then_ret ?_
    exact L.ret hf (run_results2 Try.results20 (ResIs.tmp hf rfl) (ResIs.tmp hf rfl)) ⟨0, y1, rfl, h, hs.nil⟩
  · replace h := h.2 hc
    refine wp_skip ?_
    refine X.then_ ?_
    refine wp_seq ?_
    refine wp_seq ?_
    refine H.start (S := Sat w0 none_ [hbox g2 26 [.int .i64 c.Step, .int .i64 c.Via, .int .i64 c.Turn, .int .i64 c.Against], hbox g1 24 [.int .i64 g.W, .int .i64 g.H, .int .i64 g.Layers, .slice g_BlockedA g.Blocked.length g_BlockedC]]) mo ?_
    replace hs := hs.drew
    refine H.val hf hs (v := .agg #[.int .i64 g.W, .int .i64 g.H, .int .i64 g.Layers, .slice g_BlockedA g.Blocked.length g_BlockedC]) (i := 0) rfl rfl rfl rfl (by kernel_rfl) (by kernel_rfl) (by kernel_rfl) (V.loadBox 1 rfl rfl rfl Try.isAgg24 Try.sizeOf24 rfl rfl) (fun a hf => ?_)
    refine H.val hf hs (v := .agg #[.int .i64 g.W, .int .i64 g.H, .int .i64 g.Layers, .slice g_BlockedA g.Blocked.length g_BlockedC]) (i := 1) rfl rfl rfl rfl (by kernel_rfl) (by kernel_rfl) (by kernel_rfl) (V.loadBox 1 rfl rfl rfl Try.isAgg24 Try.sizeOf24 rfl rfl) (fun a hf => ?_)
    refine H.val hf hs (v := .slice w_A w_.length w_C) (i := 3) rfl rfl rfl rfl (by kernel_rfl) (by kernel_rfl) (by kernel_rfl) (V.pure rfl) (fun a hf => ?_)
    refine H.one (i := 2) rfl (by kernel_rfl) ?_
    refine S.call hf rfl rfl rfl (call_fn (vs := [.agg #[.int .i64 g.W, .int .i64 g.H, .int .i64 g.Layers, .slice g_BlockedA g.Blocked.length g_BlockedC]]) rfl rfl rfl Try.call49) (R_route_blocked g _ g_BlockedA g_BlockedC ((Ag.args _ _ _).view hv_g_Blocked hs) _ h) (fun v a w' hf hr => ?_)
    obtain ⟨y2, y2A, y2C, rfl, h2, hs2⟩ := hr
    replace h := h2; replace hs := hs.call hs2; clear h2 hs2
    refine R.nil ?_
    refine X.then_ ?_
    refine ⟨(hs.mask [false, true, true]), ?_⟩
    refine H.one (i := 4) rfl (by kernel_rfl) ?_
    refine S.call hf rfl rfl rfl (call_fn (vs := [.agg #[.int .i64 g.W, .int .i64 g.H, .int .i64 g.Layers, .slice g_BlockedA g.Blocked.length g_BlockedC], .slice y2A y2.length y2C, .slice w_A w_.length w_C]) rfl rfl rfl Try.call48) (R_route_checkWay g y2 w_ _ g_BlockedA g_BlockedC ((Ag.args _ _ _).view hv_g_Blocked hs) y2A y2C (hs.ownView 0 rfl) w_A w_C ((Ag.args _ _ _).view hv_w_ hs) _ h) (fun v a w' hf hr => ?_)
    obtain ⟨y3, rfl, h2, hs2⟩ := hr
    replace h := h2; replace hs := hs.call hs2; clear h2 hs2
    refine R.nil ?_
    refine X.then_ ?_
    refine ⟨(hs.mask [false, true, true]), ?_⟩
    refine H.val hf (hs.mask [false, true, true]) (v := .int .i64 y3) (i := 5) rfl rfl rfl rfl (by kernel_rfl) (by kernel_rfl) (by kernel_rfl) (V.pure rfl) (fun a hf => ?_)
    refine H.done (by kernel_rfl) ?_
    refine X.then_ ?_
    refine wp_seq ?_
    refine R.list ?_
    refine S.val hf hs (v := .int .i64 y3) rfl rfl rfl (V.pure rfl) (fun a hf => ?_)
    refine S.val hf hs (v := .bool (y3 != 0)) rfl rfl rfl (V.pure rfl) (fun a hf => ?_)
    refine R.nil ?_
    refine X.then_ ?_
    refine C.cond hf (b := y3 != 0) rfl (fun hc => ?_) (fun hc => ?_)
    · replace h := h.1 hc
      refine wp_seq ?_
      refine R.list ?_
      refine S.val hf hs (v := .int .i64 y3) rfl rfl rfl (V.pure rfl) (fun a hf => ?_)
      refine S.val hf hs (v := .int .i64 0) rfl rfl rfl (V.pure rfl) (fun a hf => ?_)
      refine S.val hf hs (v := .int .i64 y3) rfl rfl rfl (V.pure rfl) (fun a hf => ?_)
      refine R.nil ?_
      refine X.then_ ?_
      refine wp_ret ?_
      refine X.then_ret ?_
      exact L.ret hf (run_results2 Try.results20 (ResIs.tmp hf rfl) (ResIs.tmp hf rfl)) ⟨0, y3, rfl, h, hs.nil⟩
    · replace h := h.2 hc
      refine wp_skip ?_
      refine X.then_ ?_
      refine wp_seq ?_
      refine R.list ?_
      refine S.val hf hs (v := .agg #[.int .i64 c.Step, .int .i64 c.Via, .int .i64 c.Turn, .int .i64 c.Against]) rfl rfl rfl (V.loadBox 1 rfl rfl rfl Try.isAgg26 Try.sizeOf26 rfl rfl) (fun a hf => ?_)
      refine S.val hf hs (v := .slice w_A w_.length w_C) rfl rfl rfl (V.pure rfl) (fun a hf => ?_)
      refine S.call hf rfl rfl rfl (call_fn (vs := [.agg #[.int .i64 c.Step, .int .i64 c.Via, .int .i64 c.Turn, .int .i64 c.Against], .slice w_A w_.length w_C]) rfl rfl rfl Try.call50) (R_route_costOf c w_ _ w_A w_C ((Ag.args _ _ _).view hv_w_ hs) _ h) (fun v a w' hf hr => ?_)
      obtain ⟨y4, rfl, h2, hs2⟩ := hr
      replace h := h2; replace hs := hs.call hs2; clear h2 hs2
      refine S.val hf hs (v := .int .i64 y4) rfl rfl rfl (V.pure rfl) (fun a hf => ?_)
      refine S.val hf hs (v := .int .i64 0) rfl rfl rfl (V.pure rfl) (fun a hf => ?_)
      refine R.nil ?_
      refine X.then_ ?_
      refine wp_ret ?_
      exact L.ret hf (run_results2 Try.results20 (ResIs.tmp hf rfl) (ResIs.tmp hf rfl)) ⟨y4, 0, rfl, h, hs.nil⟩

set_option linter.unusedVariables false
def M_ref7_apart (a_ : Int) (b : Int) (Q : Int → Prop) : Prop :=
  Q (w64 ((max a_ b) - (min a_ b)))
set_option maxHeartbeats 1000000 in
theorem R_ref7_apart (a_ : Int) (b : Int) (w0 : World)  (Q : Int → Prop) (h : M_ref7_apart a_ b Q) :
    Ret Try.prog 96 #[.int .i64 a_, .int .i64 b] w0 fun v w' => ∃ (r0 : Int), v = .int .i64 r0 ∧ Q r0 ∧ Sat w0 none_ [] w' := by
  refine fn_enter Try.func96 rfl Try.ntmps96 rfl (fs := [(0, .int .i64 a_), (1, .int .i64 b)]) rfl (fun a hf => ?_)
  have hs := Sat.start w0 none_
  unfold M_ref7_apart at h
  refine wp_seq ?_
  refine R.list ?_
  refine S.val hf hs (v := .int .i64 0) rfl rfl rfl (V.pure rfl) (fun a hf => ?_)
  refine R.nil ?_
  refine X.then_ ?_
  refine wp_seq ?_
  refine R.list ?_
  refine S.val hf hs (v := .int .i64 a_) rfl rfl rfl (V.pure rfl) (fun a hf => ?_)
  refine S.val hf hs (v := .int .i64 b) rfl rfl rfl (V.pure rfl) (fun a hf => ?_)
  refine S.val hf hs (v := .int .i64 (max a_ b)) rfl rfl rfl (V.max2 rfl rfl rfl) (fun a hf => ?_)
  refine S.val hf hs (v := .int .i64 a_) rfl rfl rfl (V.pure rfl) (fun a hf => ?_)
  refine S.val hf hs (v := .int .i64 b) rfl rfl rfl (V.pure rfl) (fun a hf => ?_)
  refine S.val hf hs (v := .int .i64 (min a_ b)) rfl rfl rfl (V.min2 rfl rfl rfl) (fun a hf => ?_)
  refine S.val hf hs (v := .int .i64 (w64 ((max a_ b) - (min a_ b)))) rfl rfl rfl (V.pure rfl) (fun a hf => ?_)
  refine S.val hf hs (v := .int .i64 (w64 ((max a_ b) - (min a_ b)))) rfl rfl rfl (V.pure rfl) (fun a hf => ?_)
  refine R.nil ?_
  refine X.then_ ?_
  refine wp_ret ?_
  exact L.ret hf (run_results1 Try.results96 (ResIs.tmp hf rfl)) ⟨(w64 ((max a_ b) - (min a_ b))), rfl, h, hs.nil⟩

set_option linter.unusedVariables false
def M_ref7_along (a_ : Cell) (b : Cell) (Q : Int → Prop) : Prop :=
  M_ref7_apart a_.X b.X fun y1 => M_ref7_apart a_.Y b.Y fun y2 => M_ref7_apart a_.Layer b.Layer fun y3 => cnd ((w64 ((w64 (y1 + y2)) + y3)) != 1) (Q 0) (cnd (y1 == 1) (Q 1) (cnd (y2 == 1) (Q 2) (Q 3)))
set_option maxHeartbeats 1000000 in
theorem R_ref7_along (a_ : Cell) (b : Cell) (w0 : World)  (Q : Int → Prop) (h : M_ref7_along a_ b Q) :
    Ret Try.prog 79 #[.agg #[.int .i64 a_.X, .int .i64 a_.Y, .int .i64 a_.Layer], .agg #[.int .i64 b.X, .int .i64 b.Y, .int .i64 b.Layer]] w0 fun v w' => ∃ (r0 : Int), v = .int .i64 r0 ∧ Q r0 ∧ Sat w0 none_ [] w' := by
  refine fn_enter Try.func79 rfl Try.ntmps79 rfl (fs := [(0, .agg #[.int .i64 a_.X, .int .i64 a_.Y, .int .i64 a_.Layer]), (1, .agg #[.int .i64 b.X, .int .i64 b.Y, .int .i64 b.Layer])]) rfl (fun a hf => ?_)
  have hs := Sat.start w0 none_
  unfold M_ref7_along at h
  refine wp_seq ?_
  refine R.list ?_
  refine S.box hf hs rfl rfl rfl [.int .i64 a_.X, .int .i64 a_.Y, .int .i64 a_.Layer] rfl rfl rfl (fun g1 a w hf hs => ?_)
  refine S.box hf hs rfl rfl rfl [.int .i64 b.X, .int .i64 b.Y, .int .i64 b.Layer] rfl rfl rfl (fun g2 a w hf hs => ?_)
  refine S.val hf hs (v := .int .i64 0) rfl rfl rfl (V.pure rfl) (fun a hf => ?_)
  refine R.nil ?_
  refine X.then_ ?_
  refine wp_seq ?_
  refine H.start (S := Sat w0 none_ [hbox g2 28 [.int .i64 b.X, .int .i64 b.Y, .int .i64 b.Layer], hbox g1 28 [.int .i64 a_.X, .int .i64 a_.Y, .int .i64 a_.Layer]]) mo ?_
  replace hs := hs.drew
  refine H.val hf hs (v := .pointer (some ⟨g1, 0, none⟩)) (i := 0) rfl rfl rfl rfl (by kernel_rfl) (by kernel_rfl) (by kernel_rfl) (V.fieldBox rfl rfl Try.runUnderlying28 rfl Try.sizeOf3 rfl rfl) (fun a hf => ?_)
  refine H.val hf hs (v := .int .i64 a_.X) (i := 1) rfl rfl rfl rfl (by kernel_rfl) (by kernel_rfl) (by kernel_rfl) (V.loadBox 1 rfl rfl rfl Try.isAgg3 Try.sizeOf3 rfl rfl) (fun a hf => ?_)
  refine H.val hf hs (v := .pointer (some ⟨g2, 0, none⟩)) (i := 2) rfl rfl rfl rfl (by kernel_rfl) (by kernel_rfl) (by kernel_rfl) (V.fieldBox rfl rfl Try.runUnderlying28 rfl Try.sizeOf3 rfl rfl) (fun a hf => ?_)
  refine H.val hf hs (v := .int .i64 b.X) (i := 3) rfl rfl rfl rfl (by kernel_rfl) (by kernel_rfl) (by kernel_rfl) (V.loadBox 0 rfl rfl rfl Try.isAgg3 Try.sizeOf3 rfl rfl) (fun a hf => ?_)
  refine H.val hf hs (v := .pointer (some ⟨g1, 1, none⟩)) (i := 5) rfl rfl rfl rfl (by kernel_rfl) (by kernel_rfl) (by kernel_rfl) (V.fieldBox rfl rfl Try.runUnderlying28 rfl Try.sizeOf3 rfl rfl) (fun a hf => ?_)
  refine H.val hf hs (v := .int .i64 a_.Y) (i := 6) rfl rfl rfl rfl (by kernel_rfl) (by kernel_rfl) (by kernel_rfl) (V.loadBox 1 rfl rfl rfl Try.isAgg3 Try.sizeOf3 rfl rfl) (fun a hf => ?_)
  refine H.val hf hs (v := .pointer (some ⟨g2, 1, none⟩)) (i := 7) rfl rfl rfl rfl (by kernel_rfl) (by kernel_rfl) (by kernel_rfl) (V.fieldBox rfl rfl Try.runUnderlying28 rfl Try.sizeOf3 rfl rfl) (fun a hf => ?_)
  refine H.val hf hs (v := .int .i64 b.Y) (i := 8) rfl rfl rfl rfl (by kernel_rfl) (by kernel_rfl) (by kernel_rfl) (V.loadBox 0 rfl rfl rfl Try.isAgg3 Try.sizeOf3 rfl rfl) (fun a hf => ?_)
  refine H.val hf hs (v := .pointer (some ⟨g1, 2, none⟩)) (i := 10) rfl rfl rfl rfl (by kernel_rfl) (by kernel_rfl) (by kernel_rfl) (V.fieldBox rfl rfl Try.runUnderlying28 rfl Try.sizeOf3 rfl rfl) (fun a hf => ?_)
  refine H.val hf hs (v := .int .i64 a_.Layer) (i := 11) rfl rfl rfl rfl (by kernel_rfl) (by kernel_rfl) (by kernel_rfl) (V.loadBox 1 rfl rfl rfl Try.isAgg3 Try.sizeOf3 rfl rfl) (fun a hf => ?_)
  refine H.val hf hs (v := .pointer (some ⟨g2, 2, none⟩)) (i := 12) rfl rfl rfl rfl (by kernel_rfl) (by kernel_rfl) (by kernel_rfl) (V.fieldBox rfl rfl Try.runUnderlying28 rfl Try.sizeOf3 rfl rfl) (fun a hf => ?_)
  refine H.val hf hs (v := .int .i64 b.Layer) (i := 13) rfl rfl rfl rfl (by kernel_rfl) (by kernel_rfl) (by kernel_rfl) (V.loadBox 0 rfl rfl rfl Try.isAgg3 Try.sizeOf3 rfl rfl) (fun a hf => ?_)
  refine H.one (i := 4) rfl (by kernel_rfl) ?_
  refine S.call hf rfl rfl rfl (call_fn (vs := [.int .i64 a_.X, .int .i64 b.X]) rfl rfl rfl Try.call96) (R_ref7_apart a_.X b.X _  _ h) (fun v a w' hf hr => ?_)
  obtain ⟨y1, rfl, h2, hs2⟩ := hr
  replace h := h2; replace hs := hs.call hs2; clear h2 hs2
  refine R.nil ?_
  refine X.then_ ?_
  refine ⟨hs, ?_⟩
  refine H.one (i := 9) rfl (by kernel_rfl) ?_
  refine S.call hf rfl rfl rfl (call_fn (vs := [.int .i64 a_.Y, .int .i64 b.Y]) rfl rfl rfl Try.call96) (R_ref7_apart a_.Y b.Y _  _ h) (fun v a w' hf hr => ?_)
  obtain ⟨y2, rfl, h2, hs2⟩ := hr
  replace h := h2; replace hs := hs.call hs2; clear h2 hs2
  refine R.nil ?_
  refine X.then_ ?_
  refine ⟨hs, ?_⟩
  refine H.one (i := 14) rfl (by kernel_rfl) ?_
  refine S.call hf rfl rfl rfl (call_fn (vs := [.int .i64 a_.Layer, .int .i64 b.Layer]) rfl rfl rfl Try.call96) (R_ref7_apart a_.Layer b.Layer _  _ h) (fun v a w' hf hr => ?_)
  obtain ⟨y3, rfl, h2, hs2⟩ := hr
  replace h := h2; replace hs := hs.call hs2; clear h2 hs2
  refine R.nil ?_
  refine X.then_ ?_
  refine ⟨hs, ?_⟩
  refine H.val hf hs (v := .int .i64 y1) (i := 15) rfl rfl rfl rfl (by kernel_rfl) (by kernel_rfl) (by kernel_rfl) (V.pure rfl) (fun a hf => ?_)
  refine H.val hf hs (v := .int .i64 y2) (i := 16) rfl rfl rfl rfl (by kernel_rfl) (by kernel_rfl) (by kernel_rfl) (V.pure rfl) (fun a hf => ?_)
  refine H.val hf hs (v := .int .i64 y3) (i := 17) rfl rfl rfl rfl (by kernel_rfl) (by kernel_rfl) (by kernel_rfl) (V.pure rfl) (fun a hf => ?_)
  refine H.done (by kernel_rfl) ?_
  refine X.then_ ?_
  refine wp_seq ?_
  refine wp_block ?_
  refine wp_seq ?_
  refine R.list ?_
  refine S.val hf hs (v := .int .i64 y1) rfl rfl rfl (V.pure rfl) (fun a hf => ?_)
  refine S.val hf hs (v := .int .i64 y2) rfl rfl rfl (V.pure rfl) (fun a hf => ?_)
  refine S.val hf hs (v := .int .i64 (w64 (y1 + y2))) rfl rfl rfl (V.pure rfl) (fun a hf => ?_)
  refine S.val hf hs (v := .int .i64 y3) rfl rfl rfl (V.pure rfl) (fun a hf => ?_)
  refine S.val hf hs (v := .int .i64 (w64 ((w64 (y1 + y2)) + y3))) rfl rfl rfl (V.pure rfl) (fun a hf => ?_)
  refine S.val hf hs (v := .bool ((w64 ((w64 (y1 + y2)) + y3)) != 1)) rfl rfl rfl (V.pure rfl) (fun a hf => ?_)
  refine S.val hf hs (v := .bool ((w64 ((w64 (y1 + y2)) + y3)) != 1)) rfl rfl rfl (V.pure rfl) (fun a hf => ?_)
  refine R.nil ?_
  refine X.then_ ?_
  refine C.cond hf (b := (w64 ((w64 (y1 + y2)) + y3)) != 1) rfl (fun hc => ?_) (fun hc => ?_)
  · replace h := h.1 hc
    refine wp_seq ?_
    refine R.list ?_
    refine S.val hf hs (v := .int .i64 0) rfl rfl rfl (V.pure rfl) (fun a hf => ?_)
    refine R.nil ?_
    refine X.then_ ?_
    refine wp_ret ?_
    refine X.blk_ret ?_
    refine X.then_ret ?_
    exact L.ret hf (run_results1 Try.results79 (ResIs.tmp hf rfl)) ⟨0, rfl, h, hs.nil⟩
  · replace h := h.2 hc
    refine wp_seq ?_
    refine R.list ?_
    refine S.val hf hs (v := .int .i64 y1) rfl rfl rfl (V.pure rfl) (fun a hf => ?_)
    refine S.val hf hs (v := .bool (y1 == 1)) rfl rfl rfl (V.pure rfl) (fun a hf => ?_)
    refine S.val hf hs (v := .bool (y1 == 1)) rfl rfl rfl (V.pure rfl) (fun a hf => ?_)
    refine R.nil ?_
    refine X.then_ ?_
    refine C.cond hf (b := y1 == 1) rfl (fun hc => ?_) (fun hc => ?_)
    · replace h := h.1 hc
      refine wp_seq ?_
      refine R.list ?_
      refine S.val hf hs (v := .int .i64 1) rfl rfl rfl (V.pure rfl) (fun a hf => ?_)
      refine R.nil ?_
      refine X.then_ ?_
      refine wp_ret ?_
      refine X.blk_ret ?_
      refine X.then_ret ?_
      exact L.ret hf (run_results1 Try.results79 (ResIs.tmp hf rfl)) ⟨1, rfl, h, hs.nil⟩
    · replace h := h.2 hc
      refine wp_seq ?_
      refine R.list ?_
      refine S.val hf hs (v := .int .i64 y2) rfl rfl rfl (V.pure rfl) (fun a hf => ?_)
      refine S.val hf hs (v := .bool (y2 == 1)) rfl rfl rfl (V.pure rfl) (fun a hf => ?_)
      refine S.val hf hs (v := .bool (y2 == 1)) rfl rfl rfl (V.pure rfl) (fun a hf => ?_)
      refine R.nil ?_
      refine X.then_ ?_
      refine C.cond hf (b := y2 == 1) rfl (fun hc => ?_) (fun hc => ?_)
      · replace h := h.1 hc
        refine wp_seq ?_
        refine R.list ?_
        refine S.val hf hs (v := .int .i64 2) rfl rfl rfl (V.pure rfl) (fun a hf => ?_)
        refine R.nil ?_
        refine X.then_ ?_
        refine wp_ret ?_
        refine X.blk_ret ?_
        refine X.then_ret ?_
        exact L.ret hf (run_results1 Try.results79 (ResIs.tmp hf rfl)) ⟨2, rfl, h, hs.nil⟩
      · replace h := h.2 hc
        refine wp_skip ?_
        refine X.blk ?_
        refine X.then_ ?_
        refine wp_seq ?_
        refine R.list ?_
        refine S.val hf hs (v := .int .i64 3) rfl rfl rfl (V.pure rfl) (fun a hf => ?_)
        refine R.nil ?_
        refine X.then_ ?_
        refine wp_ret ?_
        exact L.ret hf (run_results1 Try.results79 (ResIs.tmp hf rfl)) ⟨3, rfl, h, hs.nil⟩

set_option linter.unusedVariables false
def M_index_cell_L1 (v_ : Cell) (Q : Int → Prop) (k1 : Nat) (xk1 : Cell)  (next1 : Prop) : Prop :=
  cnd (decide (v_ = xk1)) (Q (k1 : Int)) (next1)
def M_index_cell (s_ : (List Cell)) (v_ : Cell) (Q : Int → Prop) : Prop :=
  forIn' (fun k x (s : Unit) next => M_index_cell_L1 v_ Q k x (next ())) (fun (s : Unit) => Q (-1)) s_ 0 ()
set_option maxHeartbeats 1000000 in
theorem R_index_cell (s_ : (List Cell)) (v_ : Cell) (w0 : World) (s_A : Option Addr) (s_C : Nat) (hv_s_ : View w0 (old w0 none_) s_A s_C s_) (Q : Int → Prop) (h : M_index_cell s_ v_ Q) :
    Ret Try.prog 93 #[.slice s_A s_.length s_C, .agg #[.int .i64 v_.X, .int .i64 v_.Y, .int .i64 v_.Layer]] w0 fun v w' => ∃ (r0 : Int), v = .int .i64 r0 ∧ Q r0 ∧ Sat w0 none_ [] w' := by
  refine fn_enter Try.func93 rfl Try.ntmps93 rfl (fs := [(0, .slice s_A s_.length s_C), (1, .agg #[.int .i64 v_.X, .int .i64 v_.Y, .int .i64 v_.Layer])]) rfl (fun a hf => ?_)
  have hs := Sat.start w0 none_
  unfold M_index_cell at h
  refine wp_seq ?_
  refine R.list ?_
  refine S.box hf hs rfl rfl rfl [.int .i64 v_.X, .int .i64 v_.Y, .int .i64 v_.Layer] rfl rfl rfl (fun g1 a w hf hs => ?_)
  refine S.val hf hs (v := .int .i64 0) rfl rfl rfl (V.pure rfl) (fun a hf => ?_)
  refine R.nil ?_
  refine X.then_ ?_
  refine wp_seq ?_
  refine wp_seq ?_
  refine R.list ?_
  refine S.val hf hs (v := .slice s_A s_.length s_C) rfl rfl rfl (V.pure rfl) (fun a hf => ?_)
  refine S.val hf hs (v := .int .i64 (s_.length : Int)) rfl rfl rfl (V.len rfl rfl Try.runUnderlying22) (fun a hf => ?_)
  refine S.val hf hs (v := .int .i64 0) rfl rfl rfl (V.pure rfl) (fun a hf => ?_)
  refine R.nil ?_
  refine X.then_ ?_
  refine wp_block ?_
  have hlenk1 := hv_s_.len64
  refine C.range (fun (ll : List Cell) a w => ∃ (k1 : Nat) , s_.drop k1 = ll ∧ k1 + ll.length = s_.length ∧ forIn' (fun k x (s : Unit) next => M_index_cell_L1 v_ Q k x (next ())) (fun (s : Unit) => Q (-1)) ll k1 () ∧ FrOk 19 [(8, .int .i64 (k1 : Int)), (0, .slice s_A s_.length s_C), (3, .pointer (some ⟨g1, 0, none⟩)), (7, .int .i64 (s_.length : Int))] a ∧ Sat w0 none_ [hbox g1 28 [.int .i64 v_.X, .int .i64 v_.Y, .int .i64 v_.Layer]] w) s_ ⟨0, rfl, Nat.zero_add _, h, ((((hf.nil.cons (hf.get 7 _ rfl)).cons (hf.get 3 _ rfl)).cons (hf.get 0 _ rfl)).cons (hf.get 8 _ rfl)), hs⟩ ?_
  clear h hf hs
  rintro llk1 a w ⟨k1, hlk1, hkk1, h, hf, hs⟩
  cases llk1 with
  | nil =>
    have hc := range_done hkk1
    replace h : Q (-1) := h
    refine wp_seq ?_
    refine R.list ?_
    refine S.val hf hs (v := .bool false) rfl rfl rfl (V.cmp false rfl rfl rfl rfl hc) (fun a hf => ?_)
    refine R.nil ?_
    refine X.then_ ?_
    refine wp_seq ?_
    refine C.no hf rfl ?_
    refine wp_exit ?_
    refine X.then_exit ?_
    refine X.then_exit ?_
    refine X.blk_exit ?_
    refine X.then_ ?_
    refine wp_seq ?_
    refine R.list ?_
    refine S.val hf hs (v := .int .i64 (-1)) rfl rfl rfl (V.pure rfl) (fun a hf => ?_)
    refine R.nil ?_
    refine X.then_ ?_
    refine wp_ret ?_
    exact L.ret hf (run_results1 Try.results93 (ResIs.tmp hf rfl)) ⟨(-1), rfl, h, hs.nil⟩
  | cons xk1 llk1 =>
    have hltk1 := range_lt hkk1; have hc := range_go hkk1; have hxk1 := range_get hlk1
    obtain ⟨next1, hnext1⟩ : ∃ X : Prop, X = (forIn' (fun k x (s : Unit) next => M_index_cell_L1 v_ Q k x (next ())) (fun (s : Unit) => Q (-1)) llk1 (k1 + 1) ()) := ⟨_, rfl⟩
    replace h : M_index_cell_L1 v_ Q k1 xk1  next1 := by rw [hnext1]; exact h
    unfold M_index_cell_L1 at h
    refine wp_seq ?_
    refine R.list ?_
    refine S.val hf hs (v := .bool true) rfl rfl rfl (V.cmp true rfl rfl rfl rfl hc) (fun a hf => ?_)
    refine R.nil ?_
    refine X.then_ ?_
    refine wp_seq ?_
    refine C.yes hf rfl ?_
    refine wp_skip ?_
    refine X.then_ ?_
    refine wp_seq ?_
    refine wp_block ?_
    refine wp_seq ?_
    refine R.list ?_
    refine S.val hf hs (v := .int .i64 (k1 : Int)) rfl rfl rfl (V.pure rfl) (fun a hf => ?_)
    refine S.val hf hs (v := .int .i64 (k1 : Int)) rfl rfl rfl (V.pure rfl) (fun a hf => ?_)
    refine R.nil ?_
    refine X.then_ ?_
    refine wp_seq ?_
    refine R.draw mo (by kernel_rfl) hs ?_
    refine D.val hf (v := .agg #[.int .i64 v_.X, .int .i64 v_.Y, .int .i64 v_.Layer]) rfl rfl rfl (V.loadBox 0 rfl rfl rfl Try.isAgg28 Try.sizeOf28 rfl rfl) (fun a hf => ?_)
    refine D.val hf (v := .slice s_A s_.length s_C) rfl rfl rfl (V.pure rfl) (fun a hf => ?_)
    refine D.val hf (v := .int .i64 (k1 : Int)) rfl rfl rfl (V.pure rfl) (fun a hf => ?_)
    refine D.val hf (v := elemPtr s_A (k1 * 3)) rfl rfl rfl (V.index rfl rfl rfl Try.runUnderlying22 Try.sizeOf28 (hv_s_.some_ (lt_of_get hxk1)) (Int.natCast_nonneg _) (lt_of_get hxk1) rfl) (fun a hf => ?_)
    refine D.val hf (v := .agg #[.int .i64 xk1.X, .int .i64 xk1.Y, .int .i64 xk1.Layer]) rfl rfl rfl (V.loadEl (off := 0) (Ag.args _ _ _) (hv_s_.flat hxk1) rfl rfl rfl Try.isAgg28 Try.sizeOf28 rfl rfl) (fun a hf => ?_)
    refine D.val hf (v := .bool (decide (v_ = xk1))) rfl rfl rfl (V.aggeql rfl rfl rfl (by kernel_rfl) (fun w => eqS28 v_ xk1 w)) (fun a hf => ?_)
    refine D.done (fun w hs => ?_)
    refine X.then_ ?_
    refine C.cond hf (b := decide (v_ = xk1)) rfl (fun hc => ?_) (fun hc => ?_)
    · replace h := h.1 hc
      refine wp_seq ?_
      refine R.list ?_
      refine S.val hf hs (v := .int .i64 (k1 : Int)) rfl rfl rfl (V.pure rfl) (fun a hf => ?_)
      refine S.val hf hs (v := .int .i64 (k1 : Int)) rfl rfl rfl (V.pure rfl) (fun a hf => ?_)
      refine R.nil ?_
      refine X.then_ ?_
      refine wp_ret ?_
      refine X.blk_ret ?_
      refine X.then_ret ?_
      refine X.then_ret ?_
      refine X.blk_ret ?_
      refine X.then_ret ?_
      exact L.ret hf (run_results1 Try.results93 (ResIs.tmp hf rfl)) ⟨(k1 : Int), rfl, h, hs.nil⟩
    · replace h := h.2 hc
      refine wp_skip ?_
      refine X.blk ?_
      refine X.then_ ?_
      refine R.list ?_
      refine S.val hf hs (v := .int .i64 ((k1 + 1 : Nat) : Int)) rfl rfl rfl (V.incr rfl rfl rfl hltk1 hlenk1) (fun a hf => ?_)
      refine S.val hf hs (v := .int .i64 ((k1 + 1 : Nat) : Int)) rfl rfl rfl (V.pure rfl) (fun a hf => ?_)
      refine R.nil ?_
      refine X.then_ ?_
      exact ⟨xk1, llk1, rfl, k1 + 1, range_drop hlk1, range_len hkk1, (by rw [hnext1] at h; exact h), ((((hf.nil.cons (hf.get 7 _ rfl)).cons (hf.get 3 _ rfl)).cons (hf.get 0 _ rfl)).cons (hf.get 8 _ rfl)), hs⟩

set_option linter.unusedVariables false
def M_contains_cell (s_ : (List Cell)) (v_ : Cell) (Q : Bool → Prop) : Prop :=
  M_index_cell s_ v_ fun y1 => Q (decide (y1 ≥ 0))
set_option maxHeartbeats 1000000 in
theorem R_contains_cell (s_ : (List Cell)) (v_ : Cell) (w0 : World) (s_A : Option Addr) (s_C : Nat) (hv_s_ : View w0 (old w0 none_) s_A s_C s_) (Q : Bool → Prop) (h : M_contains_cell s_ v_ Q) :
    Ret Try.prog 71 #[.slice s_A s_.length s_C, .agg #[.int .i64 v_.X, .int .i64 v_.Y, .int .i64 v_.Layer]] w0 fun v w' => ∃ (r0 : Bool), v = .bool r0 ∧ Q r0 ∧ Sat w0 none_ [] w' := by
  refine fn_enter Try.func71 rfl Try.ntmps71 rfl (fs := [(0, .slice s_A s_.length s_C), (1, .agg #[.int .i64 v_.X, .int .i64 v_.Y, .int .i64 v_.Layer])]) rfl (fun a hf => ?_)
  have hs := Sat.start w0 none_
  unfold M_contains_cell at h
  refine wp_seq ?_
  refine R.list ?_
  refine S.box hf hs rfl rfl rfl [.int .i64 v_.X, .int .i64 v_.Y, .int .i64 v_.Layer] rfl rfl rfl (fun g1 a w hf hs => ?_)
  refine S.val hf hs (v := .bool false) rfl rfl rfl (V.pure rfl) (fun a hf => ?_)
  refine R.nil ?_
  refine X.then_ ?_
  refine wp_seq ?_
  refine R.list ?_
  refine S.val hf hs (v := .slice s_A s_.length s_C) rfl rfl rfl (V.pure rfl) (fun a hf => ?_)
  refine S.val hf hs (v := .agg #[.int .i64 v_.X, .int .i64 v_.Y, .int .i64 v_.Layer]) rfl rfl rfl (V.loadBox 0 rfl rfl rfl Try.isAgg28 Try.sizeOf28 rfl rfl) (fun a hf => ?_)
  refine S.call hf rfl rfl rfl (call_fn (vs := [.slice s_A s_.length s_C, .agg #[.int .i64 v_.X, .int .i64 v_.Y, .int .i64 v_.Layer]]) rfl rfl rfl Try.call93) (R_index_cell s_ v_ _ s_A s_C ((Ag.args _ _ _).view hv_s_ hs) _ h) (fun v a w' hf hr => ?_)
  obtain ⟨y1, rfl, h2, hs2⟩ := hr
  replace h := h2; replace hs := hs.call hs2; clear h2 hs2
  refine S.val hf hs (v := .bool (decide (y1 ≥ 0))) rfl rfl rfl (V.pure rfl) (fun a hf => ?_)
  refine S.val hf hs (v := .bool (decide (y1 ≥ 0))) rfl rfl rfl (V.pure rfl) (fun a hf => ?_)
  refine R.nil ?_
  refine X.then_ ?_
  refine wp_ret ?_
  exact L.ret hf (run_results1 Try.results71 (ResIs.tmp hf rfl)) ⟨(decide (y1 ≥ 0)), rfl, h, hs.nil⟩

set_option linter.unusedVariables false
def M_ref7_checkWay_k2 (w_ : (List Cell)) (Q : Int → Prop) (k1 : Nat) (xk1 : Cell) (next1 : Prop) (c1 : Bool) : Prop :=
  cnd c1 (Q 3) (must (0 ≤ (0 : Int) ∧ (0 : Int) ≤ (k1 : Int) ∧ (k1 : Int) ≤ (w_.length : Int)) (M_contains_cell (seg w_ (0 : Int) (k1 : Int)) xk1 fun y3 => cnd y3 (Q 7) (next1)))
def M_ref7_checkWay_L1 (g : Grid) (w_ : (List Cell)) (Q : Int → Prop) (k1 : Nat) (xk1 : Cell)  (next1 : Prop) : Prop :=
  M_ref7_isCell g xk1 fun y1 => cnd (!y1) (Q 1) (M_contains_cell g.Blocked xk1 fun y2 => cnd y2 (Q 14) (cnd (decide ((k1 : Int) > 0)) (idx w_ (w64 ((k1 : Int) - 1)) fun x1 => M_ref7_along x1 xk1 fun y4 => M_ref7_checkWay_k2 w_ Q k1 xk1 next1 (y4 == 0)) (M_ref7_checkWay_k2 w_ Q k1 xk1 next1 false)))
def M_ref7_checkWay (g : Grid) (w_ : (List Cell)) (Q : Int → Prop) : Prop :=
  cnd ((w_.length : Int) == 0) (Q 9) (cnd (decide ((w_.length : Int) > 40000)) (Q 2) (forIn' (fun k x (s : Unit) next => M_ref7_checkWay_L1 g w_ Q k x (next ())) (fun (s : Unit) => Q 0) w_ 0 ()))
set_option maxHeartbeats 1000000 in
theorem R_ref7_checkWay (g : Grid) (w_ : (List Cell)) (w0 : World) (g_BlockedA : Option Addr) (g_BlockedC : Nat) (hv_g_Blocked : View w0 (old w0 none_) g_BlockedA g_BlockedC g.Blocked) (w_A : Option Addr) (w_C : Nat) (hv_w_ : View w0 (old w0 none_) w_A w_C w_) (Q : Int → Prop) (h : M_ref7_checkWay g w_ Q) :
    Ret Try.prog 52 #[.agg #[.int .i64 g.W, .int .i64 g.H, .int .i64 g.Layers, .slice g_BlockedA g.Blocked.length g_BlockedC], .slice w_A w_.length w_C] w0 fun v w' => ∃ (r0 : Int), v = .int .i64 r0 ∧ Q r0 ∧ Sat w0 none_ [] w' := by
  refine fn_enter Try.func52 rfl Try.ntmps52 rfl (fs := [(0, .agg #[.int .i64 g.W, .int .i64 g.H, .int .i64 g.Layers, .slice g_BlockedA g.Blocked.length g_BlockedC]), (1, .slice w_A w_.length w_C)]) rfl (fun a hf => ?_)
  have hs := Sat.start w0 none_
  unfold M_ref7_checkWay at h
  refine wp_seq ?_
  refine R.list ?_
  refine S.box hf hs rfl rfl rfl [.int .i64 g.W, .int .i64 g.H, .int .i64 g.Layers, .slice g_BlockedA g.Blocked.length g_BlockedC] rfl rfl rfl (fun g1 a w hf hs => ?_)
  refine S.val hf hs (v := .int .i64 0) rfl rfl rfl (V.pure rfl) (fun a hf => ?_)
  refine R.nil ?_
  refine X.then_ ?_
  refine wp_seq ?_
  refine wp_seq ?_
  refine R.list ?_
  refine S.val hf hs (v := .slice w_A w_.length w_C) rfl rfl rfl (V.pure rfl) (fun a hf => ?_)
  refine S.val hf hs (v := .int .i64 (w_.length : Int)) rfl rfl rfl (V.len rfl rfl Try.runUnderlying22) (fun a hf => ?_)
  refine S.val hf hs (v := .bool ((w_.length : Int) == 0)) rfl rfl rfl (V.pure rfl) (fun a hf => ?_)
  refine R.nil ?_
  refine X.then_ ?_
  refine C.cond hf (b := (w_.length : Int) == 0) rfl (fun hc => ?_) (fun hc => ?_)
  · replace h := h.1 hc
    refine wp_seq ?_
    refine R.list ?_
    refine S.val hf hs (v := .int .i64 9) rfl rfl rfl (V.pure rfl) (fun a hf => ?_)
    refine R.nil ?_
    refine X.then_ ?_
    refine wp_ret ?_
    refine X.then_ret ?_
    exact L.ret hf (run_results1 Try.results52 (ResIs.tmp hf rfl)) ⟨9, rfl, h, hs.nil⟩
  · replace h := h.2 hc
    refine wp_skip ?_
    refine X.then_ ?_
    refine wp_seq ?_
    refine wp_seq ?_
    refine R.list ?_
    refine S.val hf hs (v := .slice w_A w_.length w_C) rfl rfl rfl (V.pure rfl) (fun a hf => ?_)
    refine S.val hf hs (v := .int .i64 (w_.length : Int)) rfl rfl rfl (V.len rfl rfl Try.runUnderlying22) (fun a hf => ?_)
    refine S.val hf hs (v := .bool (decide ((w_.length : Int) > 40000))) rfl rfl rfl (V.pure rfl) (fun a hf => ?_)
    refine R.nil ?_
    refine X.then_ ?_
    refine C.cond hf (b := decide ((w_.length : Int) > 40000)) rfl (fun hc => ?_) (fun hc => ?_)
    · replace h := h.1 hc
      refine wp_seq ?_
      refine R.list ?_
      refine S.val hf hs (v := .int .i64 2) rfl rfl rfl (V.pure rfl) (fun a hf => ?_)
      refine R.nil ?_
      refine X.then_ ?_
      refine wp_ret ?_
      refine X.then_ret ?_
      exact L.ret hf (run_results1 Try.results52 (ResIs.tmp hf rfl)) ⟨2, rfl, h, hs.nil⟩
    · replace h := h.2 hc
      refine wp_skip ?_
      refine X.then_ ?_
      refine wp_seq ?_
      refine wp_seq ?_
      refine R.list ?_
      refine S.val hf hs (v := .slice w_A w_.length w_C) rfl rfl rfl (V.pure rfl) (fun a hf => ?_)
      refine S.val hf hs (v := .int .i64 (w_.length : Int)) rfl rfl rfl (V.len rfl rfl Try.runUnderlying22) (fun a hf => ?_)
      refine S.val hf hs (v := .int .i64 0) rfl rfl rfl (V.pure rfl) (fun a hf => ?_)
      refine R.nil ?_
      refine X.then_ ?_
      refine wp_block ?_
      have hlenk1 := hv_w_.len64
      refine C.range (fun (ll : List Cell) a w => ∃ (k1 : Nat) , w_.drop k1 = ll ∧ k1 + ll.length = w_.length ∧ forIn' (fun k x (s : Unit) next => M_ref7_checkWay_L1 g w_ Q k x (next ())) (fun (s : Unit) => Q 0) ll k1 () ∧ FrOk 50 [(15, .int .i64 (k1 : Int)), (1, .slice w_A w_.length w_C), (2, .pointer (some ⟨g1, 0, none⟩)), (13, .slice w_A w_.length w_C), (14, .int .i64 (w_.length : Int))] a ∧ Sat w0 none_ [hbox g1 24 [.int .i64 g.W, .int .i64 g.H, .int .i64 g.Layers, .slice g_BlockedA g.Blocked.length g_BlockedC]] w) w_ ⟨0, rfl, Nat.zero_add _, h, (((((hf.nil.cons (hf.get 14 _ rfl)).cons (hf.get 13 _ rfl)).cons (hf.get 2 _ rfl)).cons (hf.get 1 _ rfl)).cons (hf.get 15 _ rfl)), hs⟩ ?_
      clear h hf hs
      rintro llk1 a w ⟨k1, hlk1, hkk1, h, hf, hs⟩
      cases llk1 with
      | nil =>
        have hc := range_done hkk1
        replace h : Q 0 := h
        refine wp_seq ?_
        refine R.list ?_
        refine S.val hf hs (v := .bool false) rfl rfl rfl (V.cmp false rfl rfl rfl rfl hc) (fun a hf => ?_)
        refine R.nil ?_
        refine X.then_ ?_
        refine wp_seq ?_
        refine C.no hf rfl ?_
        refine wp_exit ?_
        refine X.then_exit ?_
        refine X.then_exit ?_
        refine X.blk_exit ?_
        refine X.then_ ?_
        refine wp_seq ?_
        refine R.list ?_
        refine S.val hf hs (v := .int .i64 0) rfl rfl rfl (V.pure rfl) (fun a hf => ?_)
        refine R.nil ?_
        refine X.then_ ?_
        refine wp_ret ?_
        exact L.ret hf (run_results1 Try.results52 (ResIs.tmp hf rfl)) ⟨0, rfl, h, hs.nil⟩
      | cons xk1 llk1 =>
        have hltk1 := range_lt hkk1; have hc := range_go hkk1; have hxk1 := range_get hlk1
        obtain ⟨next1, hnext1⟩ : ∃ X : Prop, X = (forIn' (fun k x (s : Unit) next => M_ref7_checkWay_L1 g w_ Q k x (next ())) (fun (s : Unit) => Q 0) llk1 (k1 + 1) ()) := ⟨_, rfl⟩
        replace h : M_ref7_checkWay_L1 g w_ Q k1 xk1  next1 := by rw [hnext1]; exact h
        unfold M_ref7_checkWay_L1 at h
        refine wp_seq ?_
        refine R.list ?_
        refine S.val hf hs (v := .bool true) rfl rfl rfl (V.cmp true rfl rfl rfl rfl hc) (fun a hf => ?_)
        refine R.nil ?_
        refine X.then_ ?_
        refine wp_seq ?_
        refine C.yes hf rfl ?_
        refine wp_skip ?_
        refine X.then_ ?_
        refine wp_seq ?_
        refine wp_block ?_
        refine wp_seq ?_
        refine R.list ?_
        refine S.val hf hs (v := .int .i64 (k1 : Int)) rfl rfl rfl (V.pure rfl) (fun a hf => ?_)
        refine S.val hf hs (v := elemPtr w_A (k1 * 3)) rfl rfl rfl (V.index rfl rfl rfl Try.runUnderlying22 Try.sizeOf28 (hv_w_.some_ (lt_of_get hxk1)) (Int.natCast_nonneg _) (lt_of_get hxk1) rfl) (fun a hf => ?_)
        refine S.val hf hs (v := .agg #[.int .i64 xk1.X, .int .i64 xk1.Y, .int .i64 xk1.Layer]) rfl rfl rfl (V.loadEl (off := 0) (Ag.args _ _ _) (hv_w_.flat hxk1) rfl rfl rfl Try.isAgg28 Try.sizeOf28 rfl rfl) (fun a hf => ?_)
        refine S.alloc hf hs rfl rfl rfl [.int .i64 0, .int .i64 0, .int .i64 0] rfl Try.zeroValue28 rfl (fun g2 a w hf hs => ?_)
        refine S.val hf hs (v := .int .i64 (k1 : Int)) rfl rfl rfl (V.pure rfl) (fun a hf => ?_)
        refine S.storeBox 0 hf hs rfl rfl [.int .i64 xk1.X, .int .i64 xk1.Y, .int .i64 xk1.Layer] [.int .i64 xk1.X, .int .i64 xk1.Y, .int .i64 xk1.Layer] rfl rfl rfl rfl rfl Try.sizeOf28 rfl rfl rfl rfl (fun a w hf hs => ?_)
        refine R.nil ?_
        refine X.then_ ?_
        refine wp_block ?_
        refine wp_seq ?_
        refine R.list ?_
        refine S.val hf hs (v := .agg #[.int .i64 g.W, .int .i64 g.H, .int .i64 g.Layers, .slice g_BlockedA g.Blocked.length g_BlockedC]) rfl rfl rfl (V.loadBox 1 rfl rfl rfl Try.isAgg24 Try.sizeOf24 rfl rfl) (fun a hf => ?_)
        refine S.val hf hs (v := .agg #[.int .i64 xk1.X, .int .i64 xk1.Y, .int .i64 xk1.Layer]) rfl rfl rfl (V.loadBox 0 rfl rfl rfl Try.isAgg28 Try.sizeOf28 rfl rfl) (fun a hf => ?_)
        refine S.call hf rfl rfl rfl (call_fn (vs := [.agg #[.int .i64 g.W, .int .i64 g.H, .int .i64 g.Layers, .slice g_BlockedA g.Blocked.length g_BlockedC], .agg #[.int .i64 xk1.X, .int .i64 xk1.Y, .int .i64 xk1.Layer]]) rfl rfl rfl Try.call55) (R_ref7_isCell g xk1 _ g_BlockedA g_BlockedC ((Ag.args _ _ _).view hv_g_Blocked hs) _ h) (fun v a w' hf hr => ?_)
        obtain ⟨y1, rfl, h2, hs2⟩ := hr
        replace h := h2; replace hs := hs.call hs2; clear h2 hs2
        refine S.val hf hs (v := .bool (!y1)) rfl rfl rfl (V.pure rfl) (fun a hf => ?_)
        refine S.val hf hs (v := .bool (!y1)) rfl rfl rfl (V.pure rfl) (fun a hf => ?_)
        refine R.nil ?_
        refine X.then_ ?_
        refine C.cond hf (b := !y1) rfl (fun hc => ?_) (fun hc => ?_)
        · replace h := h.1 hc
          refine wp_seq ?_
          refine R.list ?_
          refine S.val hf hs (v := .int .i64 1) rfl rfl rfl (V.pure rfl) (fun a hf => ?_)
          refine R.nil ?_
          refine X.then_ ?_
          refine wp_ret ?_
          refine X.blk_ret ?_
          refine X.blk_ret ?_
          refine X.then_ret ?_
          refine X.then_ret ?_
          refine X.blk_ret ?_
          refine X.then_ret ?_
          exact L.ret hf (run_results1 Try.results52 (ResIs.tmp hf rfl)) ⟨1, rfl, h, hs.nil⟩
        · replace h := h.2 hc
          refine wp_seq ?_
          refine R.list ?_
          refine S.val hf hs (v := .pointer (some ⟨g1, 3, none⟩)) rfl rfl rfl (V.fieldBox rfl rfl Try.runUnderlying24 rfl Try.sizeOf22 rfl rfl) (fun a hf => ?_)
          refine S.val hf hs (v := .slice g_BlockedA g.Blocked.length g_BlockedC) rfl rfl rfl (V.loadBox 1 rfl rfl rfl Try.isAgg22 Try.sizeOf22 rfl rfl) (fun a hf => ?_)
          refine S.val hf hs (v := .agg #[.int .i64 xk1.X, .int .i64 xk1.Y, .int .i64 xk1.Layer]) rfl rfl rfl (V.loadBox 0 rfl rfl rfl Try.isAgg28 Try.sizeOf28 rfl rfl) (fun a hf => ?_)
          refine S.call hf rfl rfl rfl (call_fn (vs := [.slice g_BlockedA g.Blocked.length g_BlockedC, .agg #[.int .i64 xk1.X, .int .i64 xk1.Y, .int .i64 xk1.Layer]]) rfl rfl rfl Try.call71) (R_contains_cell g.Blocked xk1 _ g_BlockedA g_BlockedC ((Ag.args _ _ _).view hv_g_Blocked hs) _ h) (fun v a w' hf hr => ?_)
          obtain ⟨y2, rfl, h2, hs2⟩ := hr
          replace h := h2; replace hs := hs.call hs2; clear h2 hs2
          refine S.val hf hs (v := .bool y2) rfl rfl rfl (V.pure rfl) (fun a hf => ?_)
          refine R.nil ?_
          refine X.then_ ?_
          refine C.cond hf (b := y2) rfl (fun hc => ?_) (fun hc => ?_)
          · replace h := h.1 hc
            refine wp_seq ?_
            refine R.list ?_
            refine S.val hf hs (v := .int .i64 14) rfl rfl rfl (V.pure rfl) (fun a hf => ?_)
            refine R.nil ?_
            refine X.then_ ?_
            refine wp_ret ?_
            refine X.blk_ret ?_
            refine X.blk_ret ?_
            refine X.then_ret ?_
            refine X.then_ret ?_
            refine X.blk_ret ?_
            refine X.then_ret ?_
            exact L.ret hf (run_results1 Try.results52 (ResIs.tmp hf rfl)) ⟨14, rfl, h, hs.nil⟩
          · replace h := h.2 hc
            refine wp_seq ?_
            refine C.cut (J := fun a w => ∃ (c1 : Bool), M_ref7_checkWay_k2 w_ Q k1 xk1 next1 c1 ∧ FrOk 50 [(1, .slice w_A w_.length w_C), (2, .pointer (some ⟨g1, 0, none⟩)), (5, .int .i64 (k1 : Int)), (6, .pointer (some ⟨g2, 0, none⟩)), (13, .slice w_A w_.length w_C), (14, .int .i64 (w_.length : Int)), (15, .int .i64 (k1 : Int)), (30, .bool c1)] a ∧ Sat w0 none_ [hbox g2 28 [.int .i64 xk1.X, .int .i64 xk1.Y, .int .i64 xk1.Layer], hbox g1 24 [.int .i64 g.W, .int .i64 g.H, .int .i64 g.Layers, .slice g_BlockedA g.Blocked.length g_BlockedC]] w) ?_ ?_
            · rintro a w ⟨c1, h, hf, hs⟩
              unfold M_ref7_checkWay_k2 at h
              refine C.cond hf (b := c1) rfl (fun hc => ?_) (fun hc => ?_)
              · replace h := h.1 hc
                refine wp_seq ?_
                refine R.list ?_
                refine S.val hf hs (v := .int .i64 3) rfl rfl rfl (V.pure rfl) (fun a hf => ?_)
                refine R.nil ?_
                refine X.then_ ?_
                refine wp_ret ?_
                refine X.blk_ret ?_
                refine X.blk_ret ?_
                refine X.then_ret ?_
                refine X.then_ret ?_
                refine X.blk_ret ?_
                refine X.then_ret ?_
                exact L.ret hf (run_results1 Try.results52 (ResIs.tmp hf rfl)) ⟨3, rfl, h, hs.nil⟩
              · replace h := h.2 hc
                refine wp_seq ?_
                refine H.start (S := Sat w0 none_ [hbox g2 28 [.int .i64 xk1.X, .int .i64 xk1.Y, .int .i64 xk1.Layer], hbox g1 24 [.int .i64 g.W, .int .i64 g.H, .int .i64 g.Layers, .slice g_BlockedA g.Blocked.length g_BlockedC]]) mo ?_
                replace hs := hs.drew
                refine H.val hf hs (v := .slice w_A w_.length w_C) (i := 0) rfl rfl rfl rfl (by kernel_rfl) (by kernel_rfl) (by kernel_rfl) (V.pure rfl) (fun a hf => ?_)
                refine H.val hf hs (v := .int .i64 (k1 : Int)) (i := 1) rfl rfl rfl rfl (by kernel_rfl) (by kernel_rfl) (by kernel_rfl) (V.pure rfl) (fun a hf => ?_)
                obtain ⟨hp1, h⟩ := h
                refine H.val hf hs (v := .slice (segA w_A w_C ((0 : Int) : Int).toNat 3) (seg w_ (0 : Int) (k1 : Int)).length (w_C - ((0 : Int) : Int).toNat)) (i := 2) rfl rfl rfl rfl (by kernel_rfl) (by kernel_rfl) (by kernel_rfl) (V.slice rfl rfl rfl rfl Try.runUnderlying22 Try.sizeOf28 rfl rfl hp1 hv_w_.cap (seg_length (by have := hp1.2.2; omega))) (fun a hf => ?_)
                refine H.val hf hs (v := .agg #[.int .i64 xk1.X, .int .i64 xk1.Y, .int .i64 xk1.Layer]) (i := 3) rfl rfl rfl rfl (by kernel_rfl) (by kernel_rfl) (by kernel_rfl) (V.loadBox 0 rfl rfl rfl Try.isAgg28 Try.sizeOf28 rfl rfl) (fun a hf => ?_)
                refine H.one (i := 4) rfl (by kernel_rfl) ?_
                refine S.call hf rfl rfl rfl (call_fn (vs := [.slice (segA w_A w_C ((0 : Int) : Int).toNat 3) (seg w_ (0 : Int) (k1 : Int)).length (w_C - ((0 : Int) : Int).toNat), .agg #[.int .i64 xk1.X, .int .i64 xk1.Y, .int .i64 xk1.Layer]]) rfl rfl rfl Try.call71) (R_contains_cell (seg w_ (0 : Int) (k1 : Int)) xk1 _ (segA w_A w_C ((0 : Int) : Int).toNat 3) (w_C - ((0 : Int) : Int).toNat) ((Ag.args _ _ _).view (View.sub hv_w_ hp1) hs) _ h) (fun v a w' hf hr => ?_)
                obtain ⟨y3, rfl, h2, hs2⟩ := hr
                replace h := h2; replace hs := hs.call hs2; clear h2 hs2
                refine R.nil ?_
                refine X.then_ ?_
                refine ⟨hs, ?_⟩
                refine H.val hf hs (v := .bool y3) (i := 5) rfl rfl rfl rfl (by kernel_rfl) (by kernel_rfl) (by kernel_rfl) (V.pure rfl) (fun a hf => ?_)
                refine H.done (by kernel_rfl) ?_
                refine X.then_ ?_
                refine C.cond hf (b := y3) rfl (fun hc => ?_) (fun hc => ?_)
                · replace h := h.1 hc
                  refine wp_seq ?_
                  refine R.list ?_
                  refine S.val hf hs (v := .int .i64 7) rfl rfl rfl (V.pure rfl) (fun a hf => ?_)
                  refine R.nil ?_
                  refine X.then_ ?_
                  refine wp_ret ?_
                  refine X.blk_ret ?_
                  refine X.blk_ret ?_
                  refine X.then_ret ?_
                  refine X.then_ret ?_
                  refine X.blk_ret ?_
                  refine X.then_ret ?_
                  exact L.ret hf (run_results1 Try.results52 (ResIs.tmp hf rfl)) ⟨7, rfl, h, hs.nil⟩
                · replace h := h.2 hc
                  refine wp_skip ?_
                  refine X.blk ?_
                  refine X.blk ?_
                  refine X.then_ ?_
                  refine R.list ?_
                  refine S.val hf hs (v := .int .i64 ((k1 + 1 : Nat) : Int)) rfl rfl rfl (V.incr rfl rfl rfl hltk1 hlenk1) (fun a hf => ?_)
                  refine S.val hf hs (v := .int .i64 ((k1 + 1 : Nat) : Int)) rfl rfl rfl (V.pure rfl) (fun a hf => ?_)
                  refine R.nil ?_
                  refine X.then_ ?_
                  exact ⟨xk1, llk1, rfl, k1 + 1, range_drop hlk1, range_len hkk1, (by rw [hnext1] at h; exact h), (((((hf.nil.cons (hf.get 14 _ rfl)).cons (hf.get 13 _ rfl)).cons (hf.get 2 _ rfl)).cons (hf.get 1 _ rfl)).cons (hf.get 15 _ rfl)), hs.drop⟩
            · skip
              refine H.start (S := Sat w0 none_ [hbox g2 28 [.int .i64 xk1.X, .int .i64 xk1.Y, .int .i64 xk1.Layer], hbox g1 24 [.int .i64 g.W, .int .i64 g.H, .int .i64 g.Layers, .slice g_BlockedA g.Blocked.length g_BlockedC]]) mo ?_
              replace hs := hs.drew
              refine H.val hf hs (v := .int .i64 (k1 : Int)) (i := 0) rfl rfl rfl rfl (by kernel_rfl) (by kernel_rfl) (by kernel_rfl) (V.pure rfl) (fun a hf => ?_)
              refine H.val hf hs (v := .bool (decide ((k1 : Int) > 0))) (i := 1) rfl rfl rfl rfl (by kernel_rfl) (by kernel_rfl) (by kernel_rfl) (V.pure rfl) (fun a hf => ?_)
              refine H.split hf hs (b := decide ((k1 : Int) > 0)) (i := 2) rfl rfl rfl rfl (by kernel_rfl) (by kernel_rfl) (by kernel_rfl) (V.pure rfl) (fun hc a hf => ?_) (fun hc a hf => ?_)
              · replace h := h.1 hc
                refine H.val hf hs (v := .slice w_A w_.length w_C) (i := 3) rfl rfl rfl rfl (by kernel_rfl) (by kernel_rfl) (by kernel_rfl) (V.pure rfl) (fun a hf => ?_)
                refine H.val hf hs (v := .int .i64 (k1 : Int)) (i := 4) rfl rfl rfl rfl (by kernel_rfl) (by kernel_rfl) (by kernel_rfl) (V.pure rfl) (fun a hf => ?_)
                refine H.val hf hs (v := .int .i64 (w64 ((k1 : Int) - 1))) (i := 5) rfl rfl rfl rfl (by kernel_rfl) (by kernel_rfl) (by kernel_rfl) (V.pure rfl) (fun a hf => ?_)
                obtain ⟨h0x1, x1, hx1, h⟩ := h
                refine H.val hf hs (v := elemPtr w_A ((w64 ((k1 : Int) - 1)).toNat * 3)) (i := 6) rfl rfl rfl rfl (by kernel_rfl) (by kernel_rfl) (by kernel_rfl) (V.index rfl rfl rfl Try.runUnderlying22 Try.sizeOf28 (hv_w_.some_ (lt_of_get hx1)) h0x1 (lt_of_get hx1) rfl) (fun a hf => ?_)
                refine H.val hf hs (v := .agg #[.int .i64 x1.X, .int .i64 x1.Y, .int .i64 x1.Layer]) (i := 7) rfl rfl rfl rfl (by kernel_rfl) (by kernel_rfl) (by kernel_rfl) (V.loadEl (off := 0) (Ag.args _ _ _) (hv_w_.flat hx1) rfl rfl rfl Try.isAgg28 Try.sizeOf28 rfl rfl) (fun a hf => ?_)
                refine H.val hf hs (v := .agg #[.int .i64 xk1.X, .int .i64 xk1.Y, .int .i64 xk1.Layer]) (i := 8) rfl rfl rfl rfl (by kernel_rfl) (by kernel_rfl) (by kernel_rfl) (V.loadBox 0 rfl rfl rfl Try.isAgg28 Try.sizeOf28 rfl rfl) (fun a hf => ?_)
                refine H.one (i := 9) rfl (by kernel_rfl) ?_
                refine S.call hf rfl rfl rfl (call_fn (vs := [.agg #[.int .i64 x1.X, .int .i64 x1.Y, .int .i64 x1.Layer], .agg #[.int .i64 xk1.X, .int .i64 xk1.Y, .int .i64 xk1.Layer]]) rfl rfl rfl Try.call79) (R_ref7_along x1 xk1 _  _ h) (fun v a w' hf hr => ?_)
                obtain ⟨y4, rfl, h2, hs2⟩ := hr
                replace h := h2; replace hs := hs.call hs2; clear h2 hs2
                refine R.nil ?_
                refine X.then_ ?_
                refine ⟨hs, ?_⟩
                refine H.val hf hs (v := .bool (y4 == 0)) (i := 10) rfl rfl rfl rfl (by kernel_rfl) (by kernel_rfl) (by kernel_rfl) (V.pure rfl) (fun a hf => ?_)
                refine H.val hf hs (v := .bool (y4 == 0)) (i := 11) rfl rfl rfl rfl (by kernel_rfl) (by kernel_rfl) (by kernel_rfl) (V.pure rfl) (fun a hf => ?_)
                refine H.val hf hs (v := .bool (y4 == 0)) (i := 12) rfl rfl rfl rfl (by kernel_rfl) (by kernel_rfl) (by kernel_rfl) (V.pure rfl) (fun a hf => ?_)
                refine H.done (by kernel_rfl) ?_
                refine X.then_ ?_
                exact ⟨(y4 == 0), h, ((((((((hf.nil.cons (hf.get 30 _ rfl)).cons (hf.get 15 _ rfl)).cons (hf.get 14 _ rfl)).cons (hf.get 13 _ rfl)).cons (hf.get 6 _ rfl)).cons (hf.get 5 _ rfl)).cons (hf.get 2 _ rfl)).cons (hf.get 1 _ rfl)), hs⟩
              · replace h := h.2 hc
                refine H.skip hf hs (i := 3) rfl rfl rfl rfl (by kernel_rfl) (by kernel_rfl) (by kernel_rfl) (fun a hf => ?_)
                refine H.skip hf hs (i := 4) rfl rfl rfl rfl (by kernel_rfl) (by kernel_rfl) (by kernel_rfl) (fun a hf => ?_)
                refine H.skip hf hs (i := 5) rfl rfl rfl rfl (by kernel_rfl) (by kernel_rfl) (by kernel_rfl) (fun a hf => ?_)
                refine H.skip hf hs (i := 6) rfl rfl rfl rfl (by kernel_rfl) (by kernel_rfl) (by kernel_rfl) (fun a hf => ?_)
                refine H.skip hf hs (i := 7) rfl rfl rfl rfl (by kernel_rfl) (by kernel_rfl) (by kernel_rfl) (fun a hf => ?_)
                refine H.skip hf hs (i := 8) rfl rfl rfl rfl (by kernel_rfl) (by kernel_rfl) (by kernel_rfl) (fun a hf => ?_)
                refine H.one (i := 9) rfl (by kernel_rfl) ?_
                refine S.skip hf rfl rfl rfl (fun a hf => ?_)
                refine R.nil ?_
                refine X.then_ ?_
                refine ⟨hs, ?_⟩
                refine H.skip hf hs (i := 10) rfl rfl rfl rfl (by kernel_rfl) (by kernel_rfl) (by kernel_rfl) (fun a hf => ?_)
                refine H.val hf hs (v := .bool false) (i := 11) rfl rfl rfl rfl (by kernel_rfl) (by kernel_rfl) (by kernel_rfl) (V.pure rfl) (fun a hf => ?_)
                refine H.val hf hs (v := .bool false) (i := 12) rfl rfl rfl rfl (by kernel_rfl) (by kernel_rfl) (by kernel_rfl) (V.pure rfl) (fun a hf => ?_)
                refine H.done (by kernel_rfl) ?_
                refine X.then_ ?_
                exact ⟨false, h, ((((((((hf.nil.cons (hf.get 30 _ rfl)).cons (hf.get 15 _ rfl)).cons (hf.get 14 _ rfl)).cons (hf.get 13 _ rfl)).cons (hf.get 6 _ rfl)).cons (hf.get 5 _ rfl)).cons (hf.get 2 _ rfl)).cons (hf.get 1 _ rfl)), hs⟩

set_option linter.unusedVariables false
def M_ref7_CheckWay (g : Grid) (w_ : (List Cell)) (Q : Int → Prop) : Prop :=
  M_ref7_CheckGrid g fun y1 => cnd (y1 != 0) (Q y1) (M_ref7_checkWay g w_ fun y2 => Q y2)
set_option maxHeartbeats 1000000 in
theorem R_ref7_CheckWay (g : Grid) (w_ : (List Cell)) (w0 : World) (g_BlockedA : Option Addr) (g_BlockedC : Nat) (hv_g_Blocked : View w0 (old w0 none_) g_BlockedA g_BlockedC g.Blocked) (w_A : Option Addr) (w_C : Nat) (hv_w_ : View w0 (old w0 none_) w_A w_C w_) (Q : Int → Prop) (h : M_ref7_CheckWay g w_ Q) :
    Ret Try.prog 27 #[.agg #[.int .i64 g.W, .int .i64 g.H, .int .i64 g.Layers, .slice g_BlockedA g.Blocked.length g_BlockedC], .slice w_A w_.length w_C] w0 fun v w' => ∃ (r0 : Int), v = .int .i64 r0 ∧ Q r0 ∧ Sat w0 none_ [] w' := by
  refine fn_enter Try.func27 rfl Try.ntmps27 rfl (fs := [(0, .agg #[.int .i64 g.W, .int .i64 g.H, .int .i64 g.Layers, .slice g_BlockedA g.Blocked.length g_BlockedC]), (1, .slice w_A w_.length w_C)]) rfl (fun a hf => ?_)
  have hs := Sat.start w0 none_
  unfold M_ref7_CheckWay at h
  refine wp_seq ?_
  refine R.list ?_
  refine S.box hf hs rfl rfl rfl [.int .i64 g.W, .int .i64 g.H, .int .i64 g.Layers, .slice g_BlockedA g.Blocked.length g_BlockedC] rfl rfl rfl (fun g1 a w hf hs => ?_)
  refine S.val hf hs (v := .int .i64 0) rfl rfl rfl (V.pure rfl) (fun a hf => ?_)
  refine R.nil ?_
  refine X.then_ ?_
  refine wp_seq ?_
  refine wp_seq ?_
  refine R.list ?_
  refine S.val hf hs (v := .agg #[.int .i64 g.W, .int .i64 g.H, .int .i64 g.Layers, .slice g_BlockedA g.Blocked.length g_BlockedC]) rfl rfl rfl (V.loadBox 0 rfl rfl rfl Try.isAgg24 Try.sizeOf24 rfl rfl) (fun a hf => ?_)
  refine S.call hf rfl rfl rfl (call_fn (vs := [.agg #[.int .i64 g.W, .int .i64 g.H, .int .i64 g.Layers, .slice g_BlockedA g.Blocked.length g_BlockedC]]) rfl rfl rfl Try.call23) (R_ref7_CheckGrid g _ g_BlockedA g_BlockedC ((Ag.args _ _ _).view hv_g_Blocked hs) _ h) (fun v a w' hf hr => ?_)
  obtain ⟨y1, rfl, h2, hs2⟩ := hr
  replace h := h2; replace hs := hs.call hs2; clear h2 hs2
  refine S.val hf hs (v := .int .i64 y1) rfl rfl rfl (V.pure rfl) (fun a hf => ?_)
  refine R.nil ?_
  refine X.then_ ?_
  refine wp_seq ?_
  refine R.list ?_
  refine S.val hf hs (v := .int .i64 y1) rfl rfl rfl (V.pure rfl) (fun a hf => ?_)
  refine S.val hf hs (v := .bool (y1 != 0)) rfl rfl rfl (V.pure rfl) (fun a hf => ?_)
  refine R.nil ?_
  refine X.then_ ?_
  refine C.cond hf (b := y1 != 0) rfl (fun hc => ?_) (fun hc => ?_)
  · replace h := h.1 hc
    refine wp_seq ?_
    refine R.list ?_
    refine S.val hf hs (v := .int .i64 y1) rfl rfl rfl (V.pure rfl) (fun a hf => ?_)
    refine S.val hf hs (v := .int .i64 y1) rfl rfl rfl (V.pure rfl) (fun a hf => ?_)
    refine R.nil ?_
    refine X.then_ ?_
    refine wp_ret ?_
    refine X.then_ret ?_
    exact L.ret hf (run_results1 Try.results27 (ResIs.tmp hf rfl)) ⟨y1, rfl, h, hs.nil⟩
  · replace h := h.2 hc
    refine wp_skip ?_
    refine X.then_ ?_
    refine wp_seq ?_
    refine R.list ?_
    refine S.val hf hs (v := .agg #[.int .i64 g.W, .int .i64 g.H, .int .i64 g.Layers, .slice g_BlockedA g.Blocked.length g_BlockedC]) rfl rfl rfl (V.loadBox 0 rfl rfl rfl Try.isAgg24 Try.sizeOf24 rfl rfl) (fun a hf => ?_)
    refine S.val hf hs (v := .slice w_A w_.length w_C) rfl rfl rfl (V.pure rfl) (fun a hf => ?_)
    refine S.call hf rfl rfl rfl (call_fn (vs := [.agg #[.int .i64 g.W, .int .i64 g.H, .int .i64 g.Layers, .slice g_BlockedA g.Blocked.length g_BlockedC], .slice w_A w_.length w_C]) rfl rfl rfl Try.call52) (R_ref7_checkWay g w_ _ g_BlockedA g_BlockedC ((Ag.args _ _ _).view hv_g_Blocked hs) w_A w_C ((Ag.args _ _ _).view hv_w_ hs) _ h) (fun v a w' hf hr => ?_)
    obtain ⟨y2, rfl, h2, hs2⟩ := hr
    replace h := h2; replace hs := hs.call hs2; clear h2 hs2
    refine S.val hf hs (v := .int .i64 y2) rfl rfl rfl (V.pure rfl) (fun a hf => ?_)
    refine R.nil ?_
    refine X.then_ ?_
    refine wp_ret ?_
    exact L.ret hf (run_results1 Try.results27 (ResIs.tmp hf rfl)) ⟨y2, rfl, h, hs.nil⟩

set_option linter.unusedVariables false
def M_ref7_stepCost_k2 (c : Costs) (Q : Int → Prop) (n1 : Int) (c1 : Bool) : Prop :=
  cnd c1 (Q (w64 (n1 + c.Turn))) (Q n1)
def M_ref7_stepCost_k1 (c : Costs) (axis : Int) (last : Int) (Q : Int → Prop) (n1 : Int) : Prop :=
  cnd (last != 0) (M_ref7_stepCost_k2 c Q n1 (last != axis)) (M_ref7_stepCost_k2 c Q n1 false)
def M_ref7_stepCost (c : Costs) (layer : Int) (axis : Int) (last : Int) (Q : Int → Prop) : Prop :=
  cnd (axis == 3) (Q c.Via) (cnd (((layer.tmod 2) == 0) == (axis == 2)) (M_ref7_stepCost_k1 c axis last Q (w64 (c.Step + c.Against))) (M_ref7_stepCost_k1 c axis last Q c.Step))
set_option maxHeartbeats 1000000 in
theorem R_ref7_stepCost (c : Costs) (layer : Int) (axis : Int) (last : Int) (w0 : World)  (Q : Int → Prop) (h : M_ref7_stepCost c layer axis last Q) :
    Ret Try.prog 80 #[.agg #[.int .i64 c.Step, .int .i64 c.Via, .int .i64 c.Turn, .int .i64 c.Against], .int .i64 layer, .int .i64 axis, .int .i64 last] w0 fun v w' => ∃ (r0 : Int), v = .int .i64 r0 ∧ Q r0 ∧ Sat w0 none_ [] w' := by
  refine fn_enter Try.func80 rfl Try.ntmps80 rfl (fs := [(0, .agg #[.int .i64 c.Step, .int .i64 c.Via, .int .i64 c.Turn, .int .i64 c.Against]), (1, .int .i64 layer), (2, .int .i64 axis), (3, .int .i64 last)]) rfl (fun a hf => ?_)
  have hs := Sat.start w0 none_
  unfold M_ref7_stepCost at h
  refine wp_seq ?_
  refine R.list ?_
  refine S.box hf hs rfl rfl rfl [.int .i64 c.Step, .int .i64 c.Via, .int .i64 c.Turn, .int .i64 c.Against] rfl rfl rfl (fun g1 a w hf hs => ?_)
  refine S.val hf hs (v := .int .i64 0) rfl rfl rfl (V.pure rfl) (fun a hf => ?_)
  refine R.nil ?_
  refine X.then_ ?_
  refine wp_seq ?_
  refine wp_seq ?_
  refine R.list ?_
  refine S.val hf hs (v := .int .i64 axis) rfl rfl rfl (V.pure rfl) (fun a hf => ?_)
  refine S.val hf hs (v := .bool (axis == 3)) rfl rfl rfl (V.pure rfl) (fun a hf => ?_)
  refine R.nil ?_
  refine X.then_ ?_
  refine C.cond hf (b := axis == 3) rfl (fun hc => ?_) (fun hc => ?_)
  · replace h := h.1 hc
    refine wp_seq ?_
    refine R.list ?_
    refine S.val hf hs (v := .pointer (some ⟨g1, 1, none⟩)) rfl rfl rfl (V.fieldBox rfl rfl Try.runUnderlying26 rfl Try.sizeOf3 rfl rfl) (fun a hf => ?_)
    refine S.val hf hs (v := .int .i64 c.Via) rfl rfl rfl (V.loadBox 0 rfl rfl rfl Try.isAgg3 Try.sizeOf3 rfl rfl) (fun a hf => ?_)
    refine S.val hf hs (v := .int .i64 c.Via) rfl rfl rfl (V.pure rfl) (fun a hf => ?_)
    refine R.nil ?_
    refine X.then_ ?_
    refine wp_ret ?_
    refine X.then_ret ?_
    exact L.ret hf (run_results1 Try.results80 (ResIs.tmp hf rfl)) ⟨c.Via, rfl, h, hs.nil⟩
  · replace h := h.2 hc
    refine wp_skip ?_
    refine X.then_ ?_
    refine wp_seq ?_
    refine R.list ?_
    refine S.val hf hs (v := .pointer (some ⟨g1, 0, none⟩)) rfl rfl rfl (V.fieldBox rfl rfl Try.runUnderlying26 rfl Try.sizeOf3 rfl rfl) (fun a hf => ?_)
    refine S.val hf hs (v := .int .i64 c.Step) rfl rfl rfl (V.loadBox 0 rfl rfl rfl Try.isAgg3 Try.sizeOf3 rfl rfl) (fun a hf => ?_)
    refine S.val hf hs (v := .int .i64 c.Step) rfl rfl rfl (V.pure rfl) (fun a hf => ?_)
    refine R.nil ?_
    refine X.then_ ?_
    refine wp_seq ?_
    refine C.cut (J := fun a w => ∃ (n1 : Int), M_ref7_stepCost_k1 c axis last Q n1 ∧ FrOk 38 [(2, .int .i64 axis), (3, .int .i64 last), (4, .pointer (some ⟨g1, 0, none⟩)), (9, .int .i64 n1)] a ∧ Sat w0 none_ [hbox g1 26 [.int .i64 c.Step, .int .i64 c.Via, .int .i64 c.Turn, .int .i64 c.Against]] w) ?_ ?_
    · rintro a w ⟨n1, h, hf, hs⟩
      unfold M_ref7_stepCost_k1 at h
      refine wp_seq ?_
      refine wp_seq ?_
      refine C.cut (J := fun a w => ∃ (c1 : Bool), M_ref7_stepCost_k2 c Q n1 c1 ∧ FrOk 38 [(4, .pointer (some ⟨g1, 0, none⟩)), (9, .int .i64 n1), (32, .bool c1)] a ∧ Sat w0 none_ [hbox g1 26 [.int .i64 c.Step, .int .i64 c.Via, .int .i64 c.Turn, .int .i64 c.Against]] w) ?_ ?_
      · rintro a w ⟨c1, h, hf, hs⟩
        unfold M_ref7_stepCost_k2 at h
        refine C.cond hf (b := c1) rfl (fun hc => ?_) (fun hc => ?_)
        · replace h := h.1 hc
          refine R.list ?_
          refine S.val hf hs (v := .int .i64 n1) rfl rfl rfl (V.pure rfl) (fun a hf => ?_)
          refine S.val hf hs (v := .pointer (some ⟨g1, 2, none⟩)) rfl rfl rfl (V.fieldBox rfl rfl Try.runUnderlying26 rfl Try.sizeOf3 rfl rfl) (fun a hf => ?_)
          refine S.val hf hs (v := .int .i64 c.Turn) rfl rfl rfl (V.loadBox 0 rfl rfl rfl Try.isAgg3 Try.sizeOf3 rfl rfl) (fun a hf => ?_)
          refine S.val hf hs (v := .int .i64 (w64 (n1 + c.Turn))) rfl rfl rfl (V.pure rfl) (fun a hf => ?_)
          refine S.val hf hs (v := .int .i64 (w64 (n1 + c.Turn))) rfl rfl rfl (V.pure rfl) (fun a hf => ?_)
          refine R.nil ?_
          refine X.then_ ?_
          refine wp_seq ?_
          refine R.list ?_
          refine S.val hf hs (v := .int .i64 (w64 (n1 + c.Turn))) rfl rfl rfl (V.pure rfl) (fun a hf => ?_)
          refine S.val hf hs (v := .int .i64 (w64 (n1 + c.Turn))) rfl rfl rfl (V.pure rfl) (fun a hf => ?_)
          refine R.nil ?_
          refine X.then_ ?_
          refine wp_ret ?_
          exact L.ret hf (run_results1 Try.results80 (ResIs.tmp hf rfl)) ⟨(w64 (n1 + c.Turn)), rfl, h, hs.nil⟩
        · replace h := h.2 hc
          refine wp_skip ?_
          refine X.then_ ?_
          refine wp_seq ?_
          refine R.list ?_
          refine S.val hf hs (v := .int .i64 n1) rfl rfl rfl (V.pure rfl) (fun a hf => ?_)
          refine S.val hf hs (v := .int .i64 n1) rfl rfl rfl (V.pure rfl) (fun a hf => ?_)
          refine R.nil ?_
          refine X.then_ ?_
          refine wp_ret ?_
          exact L.ret hf (run_results1 Try.results80 (ResIs.tmp hf rfl)) ⟨n1, rfl, h, hs.nil⟩
      · skip
        refine R.list ?_
        refine S.val hf hs (v := .int .i64 last) rfl rfl rfl (V.pure rfl) (fun a hf => ?_)
        refine S.val hf hs (v := .bool (last != 0)) rfl rfl rfl (V.pure rfl) (fun a hf => ?_)
        refine S.split hf hs (b := last != 0) rfl rfl rfl (V.pure rfl) (fun hc a hf => ?_) (fun hc a hf => ?_)
        · replace h := h.1 hc
          refine S.val hf hs (v := .int .i64 last) rfl rfl rfl (V.pure rfl) (fun a hf => ?_)
          refine S.val hf hs (v := .int .i64 axis) rfl rfl rfl (V.pure rfl) (fun a hf => ?_)
          refine S.val hf hs (v := .bool (last != axis)) rfl rfl rfl (V.pure rfl) (fun a hf => ?_)
          refine S.val hf hs (v := .bool (last != axis)) rfl rfl rfl (V.pure rfl) (fun a hf => ?_)
          refine R.nil ?_
          refine X.then_ ?_
          exact ⟨(last != axis), h, (((hf.nil.cons (hf.get 32 _ rfl)).cons (hf.get 9 _ rfl)).cons (hf.get 4 _ rfl)), hs⟩
        · replace h := h.2 hc
          refine S.skip hf rfl rfl rfl (fun a hf => ?_)
          refine S.skip hf rfl rfl rfl (fun a hf => ?_)
          refine S.skip hf rfl rfl rfl (fun a hf => ?_)
          refine S.val hf hs (v := .bool false) rfl rfl rfl (V.pure rfl) (fun a hf => ?_)
          refine R.nil ?_
          refine X.then_ ?_
          exact ⟨false, h, (((hf.nil.cons (hf.get 32 _ rfl)).cons (hf.get 9 _ rfl)).cons (hf.get 4 _ rfl)), hs⟩
    · skip
      refine wp_seq ?_
      refine R.list ?_
      refine S.val hf hs (v := .int .i64 layer) rfl rfl rfl (V.pure rfl) (fun a hf => ?_)
      refine S.val hf hs (v := .int .i64 (layer.tmod 2)) rfl rfl rfl (V.rem rfl rfl rfl (by decide)) (fun a hf => ?_)
      refine S.val hf hs (v := .bool ((layer.tmod 2) == 0)) rfl rfl rfl (V.pure rfl) (fun a hf => ?_)
      refine S.val hf hs (v := .int .i64 axis) rfl rfl rfl (V.pure rfl) (fun a hf => ?_)
      refine S.val hf hs (v := .bool (axis == 2)) rfl rfl rfl (V.pure rfl) (fun a hf => ?_)
      refine S.val hf hs (v := .bool (((layer.tmod 2) == 0) == (axis == 2))) rfl rfl rfl (V.boolEq rfl rfl rfl Try.underlying4 rfl) (fun a hf => ?_)
      refine R.nil ?_
      refine X.then_ ?_
      refine C.cond hf (b := ((layer.tmod 2) == 0) == (axis == 2)) rfl (fun hc => ?_) (fun hc => ?_)
      · replace h := h.1 hc
        refine R.list ?_
        refine S.val hf hs (v := .int .i64 c.Step) rfl rfl rfl (V.pure rfl) (fun a hf => ?_)
        refine S.val hf hs (v := .pointer (some ⟨g1, 3, none⟩)) rfl rfl rfl (V.fieldBox rfl rfl Try.runUnderlying26 rfl Try.sizeOf3 rfl rfl) (fun a hf => ?_)
        refine S.val hf hs (v := .int .i64 c.Against) rfl rfl rfl (V.loadBox 0 rfl rfl rfl Try.isAgg3 Try.sizeOf3 rfl rfl) (fun a hf => ?_)
        refine S.val hf hs (v := .int .i64 (w64 (c.Step + c.Against))) rfl rfl rfl (V.pure rfl) (fun a hf => ?_)
        refine S.val hf hs (v := .int .i64 (w64 (c.Step + c.Against))) rfl rfl rfl (V.pure rfl) (fun a hf => ?_)
        refine R.nil ?_
        refine X.then_ ?_
        exact ⟨(w64 (c.Step + c.Against)), h, ((((hf.nil.cons (hf.get 9 _ rfl)).cons (hf.get 4 _ rfl)).cons (hf.get 3 _ rfl)).cons (hf.get 2 _ rfl)), hs⟩
      · replace h := h.2 hc
        refine wp_skip ?_
        refine X.then_ ?_
        exact ⟨c.Step, h, ((((hf.nil.cons (hf.get 9 _ rfl)).cons (hf.get 4 _ rfl)).cons (hf.get 3 _ rfl)).cons (hf.get 2 _ rfl)), hs⟩

set_option linter.unusedVariables false
def M_ref7_costOf_L1 (c : Costs) (w_ : (List Cell)) (Q : Int → Prop) (again1 : Int → Int → Int → Prop) (n4 : Int) (n5 : Int) (n6 : Int) : Prop :=
  cnd (decide (n6 < (w_.length : Int))) (idx w_ (w64 (n6 - 1)) fun x1 => idx w_ n6 fun x2 => M_ref7_along x1 x2 fun y1 => M_ref7_stepCost c x2.Layer y1 n5 fun y2 => cnd (y1 != 3) (again1 (w64 (n4 + y2)) y1 (w64 (n6 + 1))) (again1 (w64 (n4 + y2)) n5 (w64 (n6 + 1)))) (Q n4)
def M_ref7_costOf (c : Costs) (w_ : (List Cell)) (Q : Int → Prop) : Prop :=
  lp (fun again (s : Int × Int × Int) => M_ref7_costOf_L1 c w_ Q (fun n4 n5 n6 => again (n4, n5, n6)) s.1 s.2.1 s.2.2) (0, 0, 1)
set_option maxHeartbeats 1000000 in
theorem R_ref7_costOf (c : Costs) (w_ : (List Cell)) (w0 : World) (w_A : Option Addr) (w_C : Nat) (hv_w_ : View w0 (old w0 none_) w_A w_C w_) (Q : Int → Prop) (h : M_ref7_costOf c w_ Q) :
    Ret Try.prog 53 #[.agg #[.int .i64 c.Step, .int .i64 c.Via, .int .i64 c.Turn, .int .i64 c.Against], .slice w_A w_.length w_C] w0 fun v w' => ∃ (r0 : Int), v = .int .i64 r0 ∧ Q r0 ∧ Sat w0 none_ [] w' := by
  refine fn_enter Try.func53 rfl Try.ntmps53 rfl (fs := [(0, .agg #[.int .i64 c.Step, .int .i64 c.Via, .int .i64 c.Turn, .int .i64 c.Against]), (1, .slice w_A w_.length w_C)]) rfl (fun a hf => ?_)
  have hs := Sat.start w0 none_
  unfold M_ref7_costOf at h
  refine wp_seq ?_
  refine R.list ?_
  refine S.box hf hs rfl rfl rfl [.int .i64 c.Step, .int .i64 c.Via, .int .i64 c.Turn, .int .i64 c.Against] rfl rfl rfl (fun g1 a w hf hs => ?_)
  refine S.val hf hs (v := .int .i64 0) rfl rfl rfl (V.pure rfl) (fun a hf => ?_)
  refine R.nil ?_
  refine X.then_ ?_
  refine wp_seq ?_
  refine R.list ?_
  refine S.val hf hs (v := .int .i64 0) rfl rfl rfl (V.pure rfl) (fun a hf => ?_)
  refine S.val hf hs (v := .int .i64 0) rfl rfl rfl (V.pure rfl) (fun a hf => ?_)
  refine R.nil ?_
  refine X.then_ ?_
  refine wp_seq ?_
  refine wp_seq ?_
  refine R.list ?_
  refine S.val hf hs (v := .int .i64 1) rfl rfl rfl (V.pure rfl) (fun a hf => ?_)
  refine R.nil ?_
  refine X.then_ ?_
  refine wp_block ?_
  obtain ⟨kk, h⟩ := h
  refine C.loop (fun kk a w => ∃ (n4 : Int) (n5 : Int) (n6 : Int), iterF (fun again (s : Int × Int × Int) => M_ref7_costOf_L1 c w_ Q (fun n4 n5 n6 => again (n4, n5, n6)) s.1 s.2.1 s.2.2) kk (n4, n5, n6) ∧ FrOk 40 [(1, .slice w_A w_.length w_C), (2, .pointer (some ⟨g1, 0, none⟩)), (5, .int .i64 n4), (6, .int .i64 n5), (7, .int .i64 n6)] a ∧ Sat w0 none_ [hbox g1 26 [.int .i64 c.Step, .int .i64 c.Via, .int .i64 c.Turn, .int .i64 c.Against]] w) kk ⟨0, 0, 1, h, (((((hf.nil.cons (hf.get 7 _ rfl)).cons (hf.get 6 _ rfl)).cons (hf.get 5 _ rfl)).cons (hf.get 2 _ rfl)).cons (hf.get 1 _ rfl)), hs⟩ (fun a w ⟨_, _, _, h, _, _⟩ => h) ?_
  clear h hf hs
  rintro kk a w ⟨n4, n5, n6, h, hf, hs⟩
  obtain ⟨again1, hagain1⟩ : ∃ X : Int → Int → Int → Prop, X = (fun n4 n5 n6 => iterF (fun again (s : Int × Int × Int) => M_ref7_costOf_L1 c w_ Q (fun n4 n5 n6 => again (n4, n5, n6)) s.1 s.2.1 s.2.2) kk (n4, n5, n6)) := ⟨_, rfl⟩
  replace h : M_ref7_costOf_L1 c w_ Q again1 n4 n5 n6 := by rw [hagain1]; exact h
  unfold M_ref7_costOf_L1 at h
  refine wp_seq ?_
  refine wp_seq ?_
  refine R.list ?_
  refine S.val hf hs (v := .int .i64 n6) rfl rfl rfl (V.pure rfl) (fun a hf => ?_)
  refine S.val hf hs (v := .slice w_A w_.length w_C) rfl rfl rfl (V.pure rfl) (fun a hf => ?_)
  refine S.val hf hs (v := .int .i64 (w_.length : Int)) rfl rfl rfl (V.len rfl rfl Try.runUnderlying22) (fun a hf => ?_)
  refine S.val hf hs (v := .bool (decide (n6 < (w_.length : Int)))) rfl rfl rfl (V.pure rfl) (fun a hf => ?_)
  refine R.nil ?_
  refine X.then_ ?_
  refine C.cond hf (b := decide (n6 < (w_.length : Int))) rfl (fun hc => ?_) (fun hc => ?_)
  · replace h := h.1 hc
    refine wp_skip ?_
    refine X.then_ ?_
    refine wp_seq ?_
    refine wp_block ?_
    refine wp_seq ?_
    refine H.start (S := Sat w0 none_ [hbox g1 26 [.int .i64 c.Step, .int .i64 c.Via, .int .i64 c.Turn, .int .i64 c.Against]]) mo ?_
    replace hs := hs.drew
    refine H.val hf hs (v := .slice w_A w_.length w_C) (i := 0) rfl rfl rfl rfl (by kernel_rfl) (by kernel_rfl) (by kernel_rfl) (V.pure rfl) (fun a hf => ?_)
    refine H.val hf hs (v := .int .i64 n6) (i := 1) rfl rfl rfl rfl (by kernel_rfl) (by kernel_rfl) (by kernel_rfl) (V.pure rfl) (fun a hf => ?_)
    refine H.val hf hs (v := .int .i64 (w64 (n6 - 1))) (i := 2) rfl rfl rfl rfl (by kernel_rfl) (by kernel_rfl) (by kernel_rfl) (V.pure rfl) (fun a hf => ?_)
    obtain ⟨h0x1, x1, hx1, h⟩ := h
    refine H.val hf hs (v := elemPtr w_A ((w64 (n6 - 1)).toNat * 3)) (i := 3) rfl rfl rfl rfl (by kernel_rfl) (by kernel_rfl) (by kernel_rfl) (V.index rfl rfl rfl Try.runUnderlying22 Try.sizeOf28 (hv_w_.some_ (lt_of_get hx1)) h0x1 (lt_of_get hx1) rfl) (fun a hf => ?_)
    refine H.val hf hs (v := .agg #[.int .i64 x1.X, .int .i64 x1.Y, .int .i64 x1.Layer]) (i := 4) rfl rfl rfl rfl (by kernel_rfl) (by kernel_rfl) (by kernel_rfl) (V.loadEl (off := 0) (Ag.args _ _ _) (hv_w_.flat hx1) rfl rfl rfl Try.isAgg28 Try.sizeOf28 rfl rfl) (fun a hf => ?_)
    refine H.val hf hs (v := .slice w_A w_.length w_C) (i := 5) rfl rfl rfl rfl (by kernel_rfl) (by kernel_rfl) (by kernel_rfl) (V.pure rfl) (fun a hf => ?_)
    refine H.val hf hs (v := .int .i64 n6) (i := 6) rfl rfl rfl rfl (by kernel_rfl) (by kernel_rfl) (by kernel_rfl) (V.pure rfl) (fun a hf => ?_)
    obtain ⟨h0x2, x2, hx2, h⟩ := h
    refine H.val hf hs (v := elemPtr w_A (n6.toNat * 3)) (i := 7) rfl rfl rfl rfl (by kernel_rfl) (by kernel_rfl) (by kernel_rfl) (V.index rfl rfl rfl Try.runUnderlying22 Try.sizeOf28 (hv_w_.some_ (lt_of_get hx2)) h0x2 (lt_of_get hx2) rfl) (fun a hf => ?_)
    refine H.val hf hs (v := .agg #[.int .i64 x2.X, .int .i64 x2.Y, .int .i64 x2.Layer]) (i := 8) rfl rfl rfl rfl (by kernel_rfl) (by kernel_rfl) (by kernel_rfl) (V.loadEl (off := 0) (Ag.args _ _ _) (hv_w_.flat hx2) rfl rfl rfl Try.isAgg28 Try.sizeOf28 rfl rfl) (fun a hf => ?_)
    refine H.one (i := 9) rfl (by kernel_rfl) ?_
    refine S.call hf rfl rfl rfl (call_fn (vs := [.agg #[.int .i64 x1.X, .int .i64 x1.Y, .int .i64 x1.Layer], .agg #[.int .i64 x2.X, .int .i64 x2.Y, .int .i64 x2.Layer]]) rfl rfl rfl Try.call79) (R_ref7_along x1 x2 _  _ h) (fun v a w' hf hr => ?_)
    obtain ⟨y1, rfl, h2, hs2⟩ := hr
    replace h := h2; replace hs := hs.call hs2; clear h2 hs2
    refine R.nil ?_
    refine X.then_ ?_
    refine ⟨hs, ?_⟩
    refine H.val hf hs (v := .int .i64 y1) (i := 10) rfl rfl rfl rfl (by kernel_rfl) (by kernel_rfl) (by kernel_rfl) (V.pure rfl) (fun a hf => ?_)
    refine H.done (by kernel_rfl) ?_
    refine X.then_ ?_
    refine wp_seq ?_
    refine H.start (S := Sat w0 none_ [hbox g1 26 [.int .i64 c.Step, .int .i64 c.Via, .int .i64 c.Turn, .int .i64 c.Against]]) mo ?_
    replace hs := hs.drew
    refine H.val hf hs (v := .int .i64 n4) (i := 0) rfl rfl rfl rfl (by kernel_rfl) (by kernel_rfl) (by kernel_rfl) (V.pure rfl) (fun a hf => ?_)
    refine H.val hf hs (v := .agg #[.int .i64 c.Step, .int .i64 c.Via, .int .i64 c.Turn, .int .i64 c.Against]) (i := 1) rfl rfl rfl rfl (by kernel_rfl) (by kernel_rfl) (by kernel_rfl) (V.loadBox 0 rfl rfl rfl Try.isAgg26 Try.sizeOf26 rfl rfl) (fun a hf => ?_)
    refine H.val hf hs (v := .slice w_A w_.length w_C) (i := 2) rfl rfl rfl rfl (by kernel_rfl) (by kernel_rfl) (by kernel_rfl) (V.pure rfl) (fun a hf => ?_)
    refine H.val hf hs (v := .int .i64 n6) (i := 3) rfl rfl rfl rfl (by kernel_rfl) (by kernel_rfl) (by kernel_rfl) (V.pure rfl) (fun a hf => ?_)
    refine H.val hf hs (v := elemPtr w_A (n6.toNat * 3)) (i := 4) rfl rfl rfl rfl (by kernel_rfl) (by kernel_rfl) (by kernel_rfl) (V.index rfl rfl rfl Try.runUnderlying22 Try.sizeOf28 (hv_w_.some_ (lt_of_get hx2)) h0x2 (lt_of_get hx2) rfl) (fun a hf => ?_)
    refine H.val hf hs (v := elemPtr w_A (n6.toNat * 3 + 2)) (i := 5) rfl rfl rfl rfl (by kernel_rfl) (by kernel_rfl) (by kernel_rfl) (V.fieldEl rfl rfl (hv_w_.some_ (lt_of_get hx2)) Try.runUnderlying28 rfl Try.sizeOf3 rfl rfl) (fun a hf => ?_)
    refine H.val hf hs (v := .int .i64 x2.Layer) (i := 6) rfl rfl rfl rfl (by kernel_rfl) (by kernel_rfl) (by kernel_rfl) (V.loadEl (off := 2) (Ag.args _ _ _) (hv_w_.flat hx2) rfl rfl rfl Try.isAgg3 Try.sizeOf3 rfl rfl) (fun a hf => ?_)
    refine H.val hf hs (v := .int .i64 y1) (i := 7) rfl rfl rfl rfl (by kernel_rfl) (by kernel_rfl) (by kernel_rfl) (V.pure rfl) (fun a hf => ?_)
    refine H.val hf hs (v := .int .i64 n5) (i := 8) rfl rfl rfl rfl (by kernel_rfl) (by kernel_rfl) (by kernel_rfl) (V.pure rfl) (fun a hf => ?_)
    refine H.one (i := 9) rfl (by kernel_rfl) ?_
    refine S.call hf rfl rfl rfl (call_fn (vs := [.agg #[.int .i64 c.Step, .int .i64 c.Via, .int .i64 c.Turn, .int .i64 c.Against], .int .i64 x2.Layer, .int .i64 y1, .int .i64 n5]) rfl rfl rfl Try.call80) (R_ref7_stepCost c x2.Layer y1 n5 _  _ h) (fun v a w' hf hr => ?_)
    obtain ⟨y2, rfl, h2, hs2⟩ := hr
    replace h := h2; replace hs := hs.call hs2; clear h2 hs2
    refine R.nil ?_
    refine X.then_ ?_
    refine ⟨hs, ?_⟩
    refine H.val hf hs (v := .int .i64 (w64 (n4 + y2))) (i := 10) rfl rfl rfl rfl (by kernel_rfl) (by kernel_rfl) (by kernel_rfl) (V.pure rfl) (fun a hf => ?_)
    refine H.val hf hs (v := .int .i64 (w64 (n4 + y2))) (i := 11) rfl rfl rfl rfl (by kernel_rfl) (by kernel_rfl) (by kernel_rfl) (V.pure rfl) (fun a hf => ?_)
    refine H.done (by kernel_rfl) ?_
    refine X.then_ ?_
    refine wp_seq ?_
    refine R.list ?_
    refine S.val hf hs (v := .int .i64 y1) rfl rfl rfl (V.pure rfl) (fun a hf => ?_)
    refine S.val hf hs (v := .bool (y1 != 3)) rfl rfl rfl (V.pure rfl) (fun a hf => ?_)
    refine R.nil ?_
    refine X.then_ ?_
    refine C.cond hf (b := y1 != 3) rfl (fun hc => ?_) (fun hc => ?_)
    · replace h := h.1 hc
      refine R.list ?_
      refine S.val hf hs (v := .int .i64 y1) rfl rfl rfl (V.pure rfl) (fun a hf => ?_)
      refine S.val hf hs (v := .int .i64 y1) rfl rfl rfl (V.pure rfl) (fun a hf => ?_)
      refine R.nil ?_
      refine X.blk ?_
      refine X.then_ ?_
      refine R.list ?_
      refine S.val hf hs (v := .int .i64 n6) rfl rfl rfl (V.pure rfl) (fun a hf => ?_)
      refine S.val hf hs (v := .int .i64 (w64 (n6 + 1))) rfl rfl rfl (V.pure rfl) (fun a hf => ?_)
      refine S.val hf hs (v := .int .i64 (w64 (n6 + 1))) rfl rfl rfl (V.pure rfl) (fun a hf => ?_)
      refine R.nil ?_
      refine X.then_ ?_
      exact ⟨(w64 (n4 + y2)), y1, (w64 (n6 + 1)), (by rw [hagain1] at h; exact h), (((((hf.nil.cons (hf.get 7 _ rfl)).cons (hf.get 6 _ rfl)).cons (hf.get 5 _ rfl)).cons (hf.get 2 _ rfl)).cons (hf.get 1 _ rfl)), hs⟩
    · replace h := h.2 hc
      refine wp_skip ?_
      refine X.blk ?_
      refine X.then_ ?_
      refine R.list ?_
      refine S.val hf hs (v := .int .i64 n6) rfl rfl rfl (V.pure rfl) (fun a hf => ?_)
      refine S.val hf hs (v := .int .i64 (w64 (n6 + 1))) rfl rfl rfl (V.pure rfl) (fun a hf => ?_)
      refine S.val hf hs (v := .int .i64 (w64 (n6 + 1))) rfl rfl rfl (V.pure rfl) (fun a hf => ?_)
      refine R.nil ?_
      refine X.then_ ?_
      exact ⟨(w64 (n4 + y2)), n5, (w64 (n6 + 1)), (by rw [hagain1] at h; exact h), (((((hf.nil.cons (hf.get 7 _ rfl)).cons (hf.get 6 _ rfl)).cons (hf.get 5 _ rfl)).cons (hf.get 2 _ rfl)).cons (hf.get 1 _ rfl)), hs⟩
  · replace h := h.2 hc
    refine wp_exit ?_
    refine X.then_exit ?_
    refine X.then_exit ?_
    refine X.blk_exit ?_
    refine X.then_ ?_
    refine wp_seq ?_
    refine R.list ?_
    refine S.val hf hs (v := .int .i64 n4) rfl rfl rfl (V.pure rfl) (fun a hf => ?_)
    refine S.val hf hs (v := .int .i64 n4) rfl rfl rfl (V.pure rfl) (fun a hf => ?_)
    refine R.nil ?_
    refine X.then_ ?_
    refine wp_ret ?_
    exact L.ret hf (run_results1 Try.results53 (ResIs.tmp hf rfl)) ⟨n4, rfl, h, hs.nil⟩

set_option linter.unusedVariables false
def M_ref7_askGrid (g : Grid) (c : Costs) (Q : Int → Prop) : Prop :=
  M_ref7_CheckGrid g fun y1 => cnd (y1 != 0) (Q y1) (M_ref7_CheckCosts c fun y2 => Q y2)
set_option maxHeartbeats 1000000 in
theorem R_ref7_askGrid (g : Grid) (c : Costs) (w0 : World) (g_BlockedA : Option Addr) (g_BlockedC : Nat) (hv_g_Blocked : View w0 (old w0 none_) g_BlockedA g_BlockedC g.Blocked) (Q : Int → Prop) (h : M_ref7_askGrid g c Q) :
    Ret Try.prog 51 #[.agg #[.int .i64 g.W, .int .i64 g.H, .int .i64 g.Layers, .slice g_BlockedA g.Blocked.length g_BlockedC], .agg #[.int .i64 c.Step, .int .i64 c.Via, .int .i64 c.Turn, .int .i64 c.Against]] w0 fun v w' => ∃ (r0 : Int), v = .int .i64 r0 ∧ Q r0 ∧ Sat w0 none_ [] w' := by
  refine fn_enter Try.func51 rfl Try.ntmps51 rfl (fs := [(0, .agg #[.int .i64 g.W, .int .i64 g.H, .int .i64 g.Layers, .slice g_BlockedA g.Blocked.length g_BlockedC]), (1, .agg #[.int .i64 c.Step, .int .i64 c.Via, .int .i64 c.Turn, .int .i64 c.Against])]) rfl (fun a hf => ?_)
  have hs := Sat.start w0 none_
  unfold M_ref7_askGrid at h
  refine wp_seq ?_
  refine R.list ?_
  refine S.box hf hs rfl rfl rfl [.int .i64 g.W, .int .i64 g.H, .int .i64 g.Layers, .slice g_BlockedA g.Blocked.length g_BlockedC] rfl rfl rfl (fun g1 a w hf hs => ?_)
  refine S.box hf hs rfl rfl rfl [.int .i64 c.Step, .int .i64 c.Via, .int .i64 c.Turn, .int .i64 c.Against] rfl rfl rfl (fun g2 a w hf hs => ?_)
  refine S.val hf hs (v := .int .i64 0) rfl rfl rfl (V.pure rfl) (fun a hf => ?_)
  refine R.nil ?_
  refine X.then_ ?_
  refine wp_seq ?_
  refine wp_seq ?_
  refine R.list ?_
  refine S.val hf hs (v := .agg #[.int .i64 g.W, .int .i64 g.H, .int .i64 g.Layers, .slice g_BlockedA g.Blocked.length g_BlockedC]) rfl rfl rfl (V.loadBox 1 rfl rfl rfl Try.isAgg24 Try.sizeOf24 rfl rfl) (fun a hf => ?_)
  refine S.call hf rfl rfl rfl (call_fn (vs := [.agg #[.int .i64 g.W, .int .i64 g.H, .int .i64 g.Layers, .slice g_BlockedA g.Blocked.length g_BlockedC]]) rfl rfl rfl Try.call23) (R_ref7_CheckGrid g _ g_BlockedA g_BlockedC ((Ag.args _ _ _).view hv_g_Blocked hs) _ h) (fun v a w' hf hr => ?_)
  obtain ⟨y1, rfl, h2, hs2⟩ := hr
  replace h := h2; replace hs := hs.call hs2; clear h2 hs2
  refine S.val hf hs (v := .int .i64 y1) rfl rfl rfl (V.pure rfl) (fun a hf => ?_)
  refine R.nil ?_
  refine X.then_ ?_
  refine wp_seq ?_
  refine R.list ?_
  refine S.val hf hs (v := .int .i64 y1) rfl rfl rfl (V.pure rfl) (fun a hf => ?_)
  refine S.val hf hs (v := .bool (y1 != 0)) rfl rfl rfl (V.pure rfl) (fun a hf => ?_)
  refine R.nil ?_
  refine X.then_ ?_
  refine C.cond hf (b := y1 != 0) rfl (fun hc => ?_) (fun hc => ?_)
  · replace h := h.1 hc
    refine wp_seq ?_
    refine R.list ?_
    refine S.val hf hs (v := .int .i64 y1) rfl rfl rfl (V.pure rfl) (fun a hf => ?_)
    refine S.val hf hs (v := .int .i64 y1) rfl rfl rfl (V.pure rfl) (fun a hf => ?_)
    refine R.nil ?_
    refine X.then_ ?_
    refine wp_ret ?_
    refine X.then_ret ?_
    exact L.ret hf (run_results1 Try.results51 (ResIs.tmp hf rfl)) ⟨y1, rfl, h, hs.nil⟩
  · replace h := h.2 hc
    refine wp_skip ?_
    refine X.then_ ?_
    refine wp_seq ?_
    refine R.list ?_
    refine S.val hf hs (v := .agg #[.int .i64 c.Step, .int .i64 c.Via, .int .i64 c.Turn, .int .i64 c.Against]) rfl rfl rfl (V.loadBox 0 rfl rfl rfl Try.isAgg26 Try.sizeOf26 rfl rfl) (fun a hf => ?_)
    refine S.call hf rfl rfl rfl (call_fn (vs := [.agg #[.int .i64 c.Step, .int .i64 c.Via, .int .i64 c.Turn, .int .i64 c.Against]]) rfl rfl rfl Try.call25) (R_ref7_CheckCosts c _  _ h) (fun v a w' hf hr => ?_)
    obtain ⟨y2, rfl, h2, hs2⟩ := hr
    replace h := h2; replace hs := hs.call hs2; clear h2 hs2
    refine S.val hf hs (v := .int .i64 y2) rfl rfl rfl (V.pure rfl) (fun a hf => ?_)
    refine R.nil ?_
    refine X.then_ ?_
    refine wp_ret ?_
    exact L.ret hf (run_results1 Try.results51 (ResIs.tmp hf rfl)) ⟨y2, rfl, h, hs.nil⟩

set_option linter.unusedVariables false
def M_ref7_CostOf (g : Grid) (c : Costs) (w_ : (List Cell)) (Q : Int → Int → Prop) : Prop :=
  M_ref7_askGrid g c fun y1 => cnd (y1 != 0) (Q 0 y1) (M_ref7_checkWay g w_ fun y2 => cnd (y2 != 0) (Q 0 y2) (M_ref7_costOf c w_ fun y3 => Q y3 0))
set_option maxHeartbeats 1000000 in
theorem R_ref7_CostOf (g : Grid) (c : Costs) (w_ : (List Cell)) (w0 : World) (g_BlockedA : Option Addr) (g_BlockedC : Nat) (hv_g_Blocked : View w0 (old w0 none_) g_BlockedA g_BlockedC g.Blocked) (w_A : Option Addr) (w_C : Nat) (hv_w_ : View w0 (old w0 none_) w_A w_C w_) (Q : Int → Int → Prop) (h : M_ref7_CostOf g c w_ Q) :
    Ret Try.prog 21 #[.agg #[.int .i64 g.W, .int .i64 g.H, .int .i64 g.Layers, .slice g_BlockedA g.Blocked.length g_BlockedC], .agg #[.int .i64 c.Step, .int .i64 c.Via, .int .i64 c.Turn, .int .i64 c.Against], .slice w_A w_.length w_C] w0 fun v w' => ∃ (r0 : Int) (r1 : Int), v = .tuple #[.int .i64 r0, .int .i64 r1] ∧ Q r0 r1 ∧ Sat w0 none_ [] w' := by
  refine fn_enter Try.func21 rfl Try.ntmps21 rfl (fs := [(0, .agg #[.int .i64 g.W, .int .i64 g.H, .int .i64 g.Layers, .slice g_BlockedA g.Blocked.length g_BlockedC]), (1, .agg #[.int .i64 c.Step, .int .i64 c.Via, .int .i64 c.Turn, .int .i64 c.Against]), (2, .slice w_A w_.length w_C)]) rfl (fun a hf => ?_)
  have hs := Sat.start w0 none_
  unfold M_ref7_CostOf at h
  refine wp_seq ?_
  refine R.list ?_
  refine S.box hf hs rfl rfl rfl [.int .i64 g.W, .int .i64 g.H, .int .i64 g.Layers, .slice g_BlockedA g.Blocked.length g_BlockedC] rfl rfl rfl (fun g1 a w hf hs => ?_)
  refine S.box hf hs rfl rfl rfl [.int .i64 c.Step, .int .i64 c.Via, .int .i64 c.Turn, .int .i64 c.Against] rfl rfl rfl (fun g2 a w hf hs => ?_)
  refine S.val hf hs (v := .int .i64 0) rfl rfl rfl (V.pure rfl) (fun a hf => ?_)
  refine S.val hf hs (v := .int .i64 0) rfl rfl rfl (V.pure rfl) (fun a hf => ?_)
  refine R.nil ?_
  refine X.then_ ?_
  refine wp_seq ?_
  refine wp_seq ?_
  refine R.list ?_
  refine S.val hf hs (v := .agg #[.int .i64 g.W, .int .i64 g.H, .int .i64 g.Layers, .slice g_BlockedA g.Blocked.length g_BlockedC]) rfl rfl rfl (V.loadBox 1 rfl rfl rfl Try.isAgg24 Try.sizeOf24 rfl rfl) (fun a hf => ?_)
  refine S.val hf hs (v := .agg #[.int .i64 c.Step, .int .i64 c.Via, .int .i64 c.Turn, .int .i64 c.Against]) rfl rfl rfl (V.loadBox 0 rfl rfl rfl Try.isAgg26 Try.sizeOf26 rfl rfl) (fun a hf => ?_)
  refine S.call hf rfl rfl rfl (call_fn (vs := [.agg #[.int .i64 g.W, .int .i64 g.H, .int .i64 g.Layers, .slice g_BlockedA g.Blocked.length g_BlockedC], .agg #[.int .i64 c.Step, .int .i64 c.Via, .int .i64 c.Turn, .int .i64 c.Against]]) rfl rfl rfl Try.call51) (R_ref7_askGrid g c _ g_BlockedA g_BlockedC ((Ag.args _ _ _).view hv_g_Blocked hs) _ h) (fun v a w' hf hr => ?_)
  obtain ⟨y1, rfl, h2, hs2⟩ := hr
  replace h := h2; replace hs := hs.call hs2; clear h2 hs2
  refine S.val hf hs (v := .int .i64 y1) rfl rfl rfl (V.pure rfl) (fun a hf => ?_)
  refine R.nil ?_
  refine X.then_ ?_
  refine wp_seq ?_
  refine R.list ?_
  refine S.val hf hs (v := .int .i64 y1) rfl rfl rfl (V.pure rfl) (fun a hf => ?_)
  refine S.val hf hs (v := .bool (y1 != 0)) rfl rfl rfl (V.pure rfl) (fun a hf => ?_)
  refine R.nil ?_
  refine X.then_ ?_
  refine C.cond hf (b := y1 != 0) rfl (fun hc => ?_) (fun hc => ?_)
  · replace h := h.1 hc
    refine wp_seq ?_
    refine R.list ?_
    refine S.val hf hs (v := .int .i64 y1) rfl rfl rfl (V.pure rfl) (fun a hf => ?_)
    refine S.val hf hs (v := .int .i64 0) rfl rfl rfl (V.pure rfl) (fun a hf => ?_)
    refine S.val hf hs (v := .int .i64 y1) rfl rfl rfl (V.pure rfl) (fun a hf => ?_)
    refine R.nil ?_
    refine X.then_ ?_
    refine wp_ret ?_
    refine X.then_ret ?_
    exact L.ret hf (run_results2 Try.results21 (ResIs.tmp hf rfl) (ResIs.tmp hf rfl)) ⟨0, y1, rfl, h, hs.nil⟩
  · replace h := h.2 hc
    refine wp_skip ?_
    refine X.then_ ?_
    refine wp_seq ?_
    refine wp_seq ?_
    refine R.list ?_
    refine S.val hf hs (v := .agg #[.int .i64 g.W, .int .i64 g.H, .int .i64 g.Layers, .slice g_BlockedA g.Blocked.length g_BlockedC]) rfl rfl rfl (V.loadBox 1 rfl rfl rfl Try.isAgg24 Try.sizeOf24 rfl rfl) (fun a hf => ?_)
    refine S.val hf hs (v := .slice w_A w_.length w_C) rfl rfl rfl (V.pure rfl) (fun a hf => ?_)
    refine S.call hf rfl rfl rfl (call_fn (vs := [.agg #[.int .i64 g.W, .int .i64 g.H, .int .i64 g.Layers, .slice g_BlockedA g.Blocked.length g_BlockedC], .slice w_A w_.length w_C]) rfl rfl rfl Try.call52) (R_ref7_checkWay g w_ _ g_BlockedA g_BlockedC ((Ag.args _ _ _).view hv_g_Blocked hs) w_A w_C ((Ag.args _ _ _).view hv_w_ hs) _ h) (fun v a w' hf hr => ?_)
    obtain ⟨y2, rfl, h2, hs2⟩ := hr
    replace h := h2; replace hs := hs.call hs2; clear h2 hs2
    refine S.val hf hs (v := .int .i64 y2) rfl rfl rfl (V.pure rfl) (fun a hf => ?_)
    refine R.nil ?_
    refine X.then_ ?_
    refine wp_seq ?_
    refine R.list ?_
    refine S.val hf hs (v := .int .i64 y2) rfl rfl rfl (V.pure rfl) (fun a hf => ?_)
    refine S.val hf hs (v := .bool (y2 != 0)) rfl rfl rfl (V.pure rfl) (fun a hf => ?_)
    refine R.nil ?_
    refine X.then_ ?_
    refine C.cond hf (b := y2 != 0) rfl (fun hc => ?_) (fun hc => ?_)
    · replace h := h.1 hc
      refine wp_seq ?_
      refine R.list ?_
      refine S.val hf hs (v := .int .i64 y2) rfl rfl rfl (V.pure rfl) (fun a hf => ?_)
      refine S.val hf hs (v := .int .i64 0) rfl rfl rfl (V.pure rfl) (fun a hf => ?_)
      refine S.val hf hs (v := .int .i64 y2) rfl rfl rfl (V.pure rfl) (fun a hf => ?_)
      refine R.nil ?_
      refine X.then_ ?_
      refine wp_ret ?_
      refine X.then_ret ?_
      exact L.ret hf (run_results2 Try.results21 (ResIs.tmp hf rfl) (ResIs.tmp hf rfl)) ⟨0, y2, rfl, h, hs.nil⟩
    · replace h := h.2 hc
      refine wp_skip ?_
      refine X.then_ ?_
      refine wp_seq ?_
      refine R.list ?_
      refine S.val hf hs (v := .agg #[.int .i64 c.Step, .int .i64 c.Via, .int .i64 c.Turn, .int .i64 c.Against]) rfl rfl rfl (V.loadBox 0 rfl rfl rfl Try.isAgg26 Try.sizeOf26 rfl rfl) (fun a hf => ?_)
      refine S.val hf hs (v := .slice w_A w_.length w_C) rfl rfl rfl (V.pure rfl) (fun a hf => ?_)
      refine S.call hf rfl rfl rfl (call_fn (vs := [.agg #[.int .i64 c.Step, .int .i64 c.Via, .int .i64 c.Turn, .int .i64 c.Against], .slice w_A w_.length w_C]) rfl rfl rfl Try.call53) (R_ref7_costOf c w_ _ w_A w_C ((Ag.args _ _ _).view hv_w_ hs) _ h) (fun v a w' hf hr => ?_)
      obtain ⟨y3, rfl, h2, hs2⟩ := hr
      replace h := h2; replace hs := hs.call hs2; clear h2 hs2
      refine S.val hf hs (v := .int .i64 y3) rfl rfl rfl (V.pure rfl) (fun a hf => ?_)
      refine S.val hf hs (v := .int .i64 0) rfl rfl rfl (V.pure rfl) (fun a hf => ?_)
      refine R.nil ?_
      refine X.then_ ?_
      refine wp_ret ?_
      exact L.ret hf (run_results2 Try.results21 (ResIs.tmp hf rfl) (ResIs.tmp hf rfl)) ⟨y3, 0, rfl, h, hs.nil⟩

end Go.Proofs.Ytihjaehkdgdenaa

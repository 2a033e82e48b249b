/- Chapter 8: checks of holes and tools, sizes: the walks. -/
import Derived.Test.YtcmgagedebbpoaaTypes
import Derived.Test.YtcmgagedebbpoaaSortI
import Derived.Test.YtcmgagedebbpoaaClear
import Derived.Test.YtcmgagedebbpoaaShelf
namespace Go.Proofs.Ytcmgagedebbpoaa
open Go Go.RowKit
set_option linter.unusedVariables false

/-! ### numbers and points -/
def within (n lo hi : Int) : Bool := decide (lo ≤ n) && decide (n ≤ hi)
def apart (a b : Int) : Int := max (w64 (a - b)) (w64 (b - a))
def far (p q : Point) : Int := max (apart p.X q.X) (apart p.Y q.Y)
def isPoint (p : Point) : Bool := within p.X (-1000000) 1000000 && within p.Y (-1000000) 1000000

set_option linter.unusedVariables false
def M_drill_within (n : Int) (lo : Int) (hi : Int) (Q : Bool → Prop) : Prop :=
  cnd (decide (n ≥ lo)) (Q (decide (n ≤ hi))) (Q false)
set_option maxHeartbeats 1000000 in
theorem R_drill_within (n : Int) (lo : Int) (hi : Int) (w0 : World)  (Q : Bool → Prop) (h : M_drill_within n lo hi Q) :
    Ret Try.prog 15 #[.int .i64 n, .int .i64 lo, .int .i64 hi] w0 fun v w' => ∃ (r0 : Bool), v = .bool r0 ∧ Q r0 ∧ Sat w0 none_ [] w' := by
  refine fn_enter Try.func15 rfl Try.ntmps15 rfl (fs := [(0, .int .i64 n), (1, .int .i64 lo), (2, .int .i64 hi)]) rfl (fun a hf => ?_)
  have hs := Sat.start w0 none_
  unfold M_drill_within at h
  refine wp_seq ?_
  refine R.list ?_
  refine S.val hf hs (v := .bool false) rfl rfl rfl (V.pure rfl) (fun a hf => ?_)
  refine R.nil ?_
  refine X.then_ ?_
  refine wp_seq ?_
  refine R.list ?_
  refine S.val hf hs (v := .int .i64 n) rfl rfl rfl (V.pure rfl) (fun a hf => ?_)
  refine S.val hf hs (v := .int .i64 lo) rfl rfl rfl (V.pure rfl) (fun a hf => ?_)
  refine S.val hf hs (v := .bool (decide (n ≥ lo))) rfl rfl rfl (V.pure rfl) (fun a hf => ?_)
  refine S.split hf hs (b := decide (n ≥ lo)) rfl rfl rfl (V.pure rfl) (fun hc a hf => ?_) (fun hc a hf => ?_)
  · replace h := h.1 hc
    refine S.val hf hs (v := .int .i64 n) rfl rfl rfl (V.pure rfl) (fun a hf => ?_)
    refine S.val hf hs (v := .int .i64 hi) rfl rfl rfl (V.pure rfl) (fun a hf => ?_)
    refine S.val hf hs (v := .bool (decide (n ≤ hi))) rfl rfl rfl (V.pure rfl) (fun a hf => ?_)
    refine S.val hf hs (v := .bool (decide (n ≤ hi))) rfl rfl rfl (V.pure rfl) (fun a hf => ?_)
    refine S.val hf hs (v := .bool (decide (n ≤ hi))) rfl rfl rfl (V.pure rfl) (fun a hf => ?_)
    refine R.nil ?_
    refine X.then_ ?_
    refine wp_ret ?_
    exact L.ret hf (run_results1 Try.results15 (ResIs.tmp hf rfl)) ⟨(decide (n ≤ hi)), rfl, h, hs.nil⟩
  · replace h := h.2 hc
    refine S.skip hf rfl rfl rfl (fun a hf => ?_)
    refine S.skip hf rfl rfl rfl (fun a hf => ?_)
    refine S.skip hf rfl rfl rfl (fun a hf => ?_)
    refine S.val hf hs (v := .bool false) rfl rfl rfl (V.pure rfl) (fun a hf => ?_)
    refine S.val hf hs (v := .bool false) rfl rfl rfl (V.pure rfl) (fun a hf => ?_)
    refine R.nil ?_
    refine X.then_ ?_
    refine wp_ret ?_
    exact L.ret hf (run_results1 Try.results15 (ResIs.tmp hf rfl)) ⟨false, rfl, h, hs.nil⟩

theorem E_drill_within (n lo hi : Int) : M_drill_within n lo hi (· = within n lo hi) := by
  unfold M_drill_within within; constructor <;> intro h <;> simp_all <;> omega
theorem C_drill_within (n : Int) (lo : Int) (hi : Int) (w0 : World)  : Ret Try.prog 15 #[.int .i64 n, .int .i64 lo, .int .i64 hi] w0 fun v w' => v = .bool (within n lo hi) ∧ Sat w0 none_ [] w' :=
  (R_drill_within n lo hi w0  (· = (within n lo hi)) (E_drill_within n lo hi)).mono fun v w' ⟨r0, hv, hr, hs⟩ => ⟨by subst hr; exact hv, hs⟩

set_option linter.unusedVariables false
def M_shape_within (n : Int) (lo : Int) (hi : Int) (Q : Bool → Prop) : Prop :=
  cnd (decide (n ≥ lo)) (Q (decide (n ≤ hi))) (Q false)
set_option maxHeartbeats 1000000 in
theorem R_shape_within (n : Int) (lo : Int) (hi : Int) (w0 : World)  (Q : Bool → Prop) (h : M_shape_within n lo hi Q) :
    Ret Try.prog 38 #[.int .i64 n, .int .i64 lo, .int .i64 hi] w0 fun v w' => ∃ (r0 : Bool), v = .bool r0 ∧ Q r0 ∧ Sat w0 none_ [] w' := by
  refine fn_enter Try.func38 rfl Try.ntmps38 rfl (fs := [(0, .int .i64 n), (1, .int .i64 lo), (2, .int .i64 hi)]) rfl (fun a hf => ?_)
  have hs := Sat.start w0 none_
  unfold M_shape_within at h
  refine wp_seq ?_
  refine R.list ?_
  refine S.val hf hs (v := .bool false) rfl rfl rfl (V.pure rfl) (fun a hf => ?_)
  refine R.nil ?_
  refine X.then_ ?_
  refine wp_seq ?_
  refine R.list ?_
  refine S.val hf hs (v := .int .i64 n) rfl rfl rfl (V.pure rfl) (fun a hf => ?_)
  refine S.val hf hs (v := .int .i64 lo) rfl rfl rfl (V.pure rfl) (fun a hf => ?_)
  refine S.val hf hs (v := .bool (decide (n ≥ lo))) rfl rfl rfl (V.pure rfl) (fun a hf => ?_)
  refine S.split hf hs (b := decide (n ≥ lo)) rfl rfl rfl (V.pure rfl) (fun hc a hf => ?_) (fun hc a hf => ?_)
  · replace h := h.1 hc
    refine S.val hf hs (v := .int .i64 n) rfl rfl rfl (V.pure rfl) (fun a hf => ?_)
    refine S.val hf hs (v := .int .i64 hi) rfl rfl rfl (V.pure rfl) (fun a hf => ?_)
    refine S.val hf hs (v := .bool (decide (n ≤ hi))) rfl rfl rfl (V.pure rfl) (fun a hf => ?_)
    refine S.val hf hs (v := .bool (decide (n ≤ hi))) rfl rfl rfl (V.pure rfl) (fun a hf => ?_)
    refine S.val hf hs (v := .bool (decide (n ≤ hi))) rfl rfl rfl (V.pure rfl) (fun a hf => ?_)
    refine R.nil ?_
    refine X.then_ ?_
    refine wp_ret ?_
    exact L.ret hf (run_results1 Try.results38 (ResIs.tmp hf rfl)) ⟨(decide (n ≤ hi)), rfl, h, hs.nil⟩
  · replace h := h.2 hc
    refine S.skip hf rfl rfl rfl (fun a hf => ?_)
    refine S.skip hf rfl rfl rfl (fun a hf => ?_)
    refine S.skip hf rfl rfl rfl (fun a hf => ?_)
    refine S.val hf hs (v := .bool false) rfl rfl rfl (V.pure rfl) (fun a hf => ?_)
    refine S.val hf hs (v := .bool false) rfl rfl rfl (V.pure rfl) (fun a hf => ?_)
    refine R.nil ?_
    refine X.then_ ?_
    refine wp_ret ?_
    exact L.ret hf (run_results1 Try.results38 (ResIs.tmp hf rfl)) ⟨false, rfl, h, hs.nil⟩

theorem E_shape_within (n lo hi : Int) : M_shape_within n lo hi (· = within n lo hi) := by
  unfold M_shape_within within; constructor <;> intro h <;> simp_all <;> omega
theorem C_shape_within (n : Int) (lo : Int) (hi : Int) (w0 : World)  : Ret Try.prog 38 #[.int .i64 n, .int .i64 lo, .int .i64 hi] w0 fun v w' => v = .bool (within n lo hi) ∧ Sat w0 none_ [] w' :=
  (R_shape_within n lo hi w0  (· = (within n lo hi)) (E_shape_within n lo hi)).mono fun v w' ⟨r0, hv, hr, hs⟩ => ⟨by subst hr; exact hv, hs⟩

set_option linter.unusedVariables false
def M_ref8_within (n : Int) (lo : Int) (hi : Int) (Q : Bool → Prop) : Prop :=
  cnd (decide (lo ≤ n)) (Q (decide (n ≤ hi))) (Q false)
set_option maxHeartbeats 1000000 in
theorem R_ref8_within (n : Int) (lo : Int) (hi : Int) (w0 : World)  (Q : Bool → Prop) (h : M_ref8_within n lo hi Q) :
    Ret Try.prog 17 #[.int .i64 n, .int .i64 lo, .int .i64 hi] w0 fun v w' => ∃ (r0 : Bool), v = .bool r0 ∧ Q r0 ∧ Sat w0 none_ [] w' := by
  refine fn_enter Try.func17 rfl Try.ntmps17 rfl (fs := [(0, .int .i64 n), (1, .int .i64 lo), (2, .int .i64 hi)]) rfl (fun a hf => ?_)
  have hs := Sat.start w0 none_
  unfold M_ref8_within at h
  refine wp_seq ?_
  refine R.list ?_
  refine S.val hf hs (v := .bool false) rfl rfl rfl (V.pure rfl) (fun a hf => ?_)
  refine R.nil ?_
  refine X.then_ ?_
  refine wp_seq ?_
  refine R.list ?_
  refine S.val hf hs (v := .int .i64 lo) rfl rfl rfl (V.pure rfl) (fun a hf => ?_)
  refine S.val hf hs (v := .int .i64 n) rfl rfl rfl (V.pure rfl) (fun a hf => ?_)
  refine S.val hf hs (v := .bool (decide (lo ≤ n))) rfl rfl rfl (V.pure rfl) (fun a hf => ?_)
  refine S.split hf hs (b := decide (lo ≤ n)) rfl rfl rfl (V.pure rfl) (fun hc a hf => ?_) (fun hc a hf => ?_)
  · replace h := h.1 hc
    refine S.val hf hs (v := .int .i64 n) rfl rfl rfl (V.pure rfl) (fun a hf => ?_)
    refine S.val hf hs (v := .int .i64 hi) rfl rfl rfl (V.pure rfl) (fun a hf => ?_)
    refine S.val hf hs (v := .bool (decide (n ≤ hi))) rfl rfl rfl (V.pure rfl) (fun a hf => ?_)
    refine S.val hf hs (v := .bool (decide (n ≤ hi))) rfl rfl rfl (V.pure rfl) (fun a hf => ?_)
    refine S.val hf hs (v := .bool (decide (n ≤ hi))) rfl rfl rfl (V.pure rfl) (fun a hf => ?_)
    refine R.nil ?_
    refine X.then_ ?_
    refine wp_ret ?_
    exact L.ret hf (run_results1 Try.results17 (ResIs.tmp hf rfl)) ⟨(decide (n ≤ hi)), rfl, h, hs.nil⟩
  · replace h := h.2 hc
    refine S.skip hf rfl rfl rfl (fun a hf => ?_)
    refine S.skip hf rfl rfl rfl (fun a hf => ?_)
    refine S.skip hf rfl rfl rfl (fun a hf => ?_)
    refine S.val hf hs (v := .bool false) rfl rfl rfl (V.pure rfl) (fun a hf => ?_)
    refine S.val hf hs (v := .bool false) rfl rfl rfl (V.pure rfl) (fun a hf => ?_)
    refine R.nil ?_
    refine X.then_ ?_
    refine wp_ret ?_
    exact L.ret hf (run_results1 Try.results17 (ResIs.tmp hf rfl)) ⟨false, rfl, h, hs.nil⟩

theorem E_ref8_within (n lo hi : Int) : M_ref8_within n lo hi (· = within n lo hi) := by
  unfold M_ref8_within within; constructor <;> intro h <;> simp_all <;> omega
theorem C_ref8_within (n : Int) (lo : Int) (hi : Int) (w0 : World)  : Ret Try.prog 17 #[.int .i64 n, .int .i64 lo, .int .i64 hi] w0 fun v w' => v = .bool (within n lo hi) ∧ Sat w0 none_ [] w' :=
  (R_ref8_within n lo hi w0  (· = (within n lo hi)) (E_ref8_within n lo hi)).mono fun v w' ⟨r0, hv, hr, hs⟩ => ⟨by subst hr; exact hv, hs⟩

set_option linter.unusedVariables false
def M_shape_IsAt (n : Int) (Q : Bool → Prop) : Prop :=
  Q (within n (-1000000) 1000000)
set_option maxHeartbeats 1000000 in
theorem R_shape_IsAt (n : Int) (w0 : World)  (Q : Bool → Prop) (h : M_shape_IsAt n Q) :
    Ret Try.prog 23 #[.int .i64 n] w0 fun v w' => ∃ (r0 : Bool), v = .bool r0 ∧ Q r0 ∧ Sat w0 none_ [] w' := by
  refine fn_enter Try.func23 rfl Try.ntmps23 rfl (fs := [(0, .int .i64 n)]) rfl (fun a hf => ?_)
  have hs := Sat.start w0 none_
  unfold M_shape_IsAt at h
  refine wp_seq ?_
  refine R.list ?_
  refine S.val hf hs (v := .bool false) rfl rfl rfl (V.pure rfl) (fun a hf => ?_)
  refine R.nil ?_
  refine X.then_ ?_
  refine wp_seq ?_
  refine R.list ?_
  refine S.val hf hs (v := .int .i64 n) rfl rfl rfl (V.pure rfl) (fun a hf => ?_)
  refine S.callv hf rfl rfl rfl (call_fn (vs := [.int .i64 n, .int .i64 (-1000000), .int .i64 1000000]) rfl rfl rfl Try.call38) (C_shape_within n (-1000000) 1000000 _ ) (fun a w hf hs' => ?_)
  replace hs := hs.call hs'; clear hs'
  refine S.val hf hs (v := .bool (within n (-1000000) 1000000)) rfl rfl rfl (V.pure rfl) (fun a hf => ?_)
  refine R.nil ?_
  refine X.then_ ?_
  refine wp_ret ?_
  exact L.ret hf (run_results1 Try.results23 (ResIs.tmp hf rfl)) ⟨(within n (-1000000) 1000000), rfl, h, hs.nil⟩

def isAt (n : Int) : Bool := within n (-1000000) 1000000
theorem E_shape_IsAt (n : Int) : M_shape_IsAt n (· = isAt n) := rfl
theorem C_shape_IsAt (n : Int) (w0 : World)  : Ret Try.prog 23 #[.int .i64 n] w0 fun v w' => v = .bool (isAt n) ∧ Sat w0 none_ [] w' :=
  (R_shape_IsAt n w0  (· = (isAt n)) (E_shape_IsAt n)).mono fun v w' ⟨r0, hv, hr, hs⟩ => ⟨by subst hr; exact hv, hs⟩

set_option linter.unusedVariables false
def M_shape_IsPoint (p : Point) (Q : Bool → Prop) : Prop :=
  cnd (isAt p.X) (Q (isAt p.Y)) (Q false)
set_option maxHeartbeats 1000000 in
theorem R_shape_IsPoint (p : Point) (w0 : World)  (Q : Bool → Prop) (h : M_shape_IsPoint p Q) :
    Ret Try.prog 14 #[.agg #[.int .i64 p.X, .int .i64 p.Y]] w0 fun v w' => ∃ (r0 : Bool), v = .bool r0 ∧ Q r0 ∧ Sat w0 none_ [] w' := by
  refine fn_enter Try.func14 rfl Try.ntmps14 rfl (fs := [(0, .agg #[.int .i64 p.X, .int .i64 p.Y])]) rfl (fun a hf => ?_)
  have hs := Sat.start w0 none_
  unfold M_shape_IsPoint at h
  refine wp_seq ?_
  refine R.list ?_
  refine S.box hf hs rfl rfl rfl [.int .i64 p.X, .int .i64 p.Y] rfl rfl rfl (fun g1 a w hf hs => ?_)
  refine S.val hf hs (v := .bool false) rfl rfl rfl (V.pure rfl) (fun a hf => ?_)
  refine R.nil ?_
  refine X.then_ ?_
  refine wp_seq ?_
  refine R.list ?_
  refine S.val hf hs (v := .pointer (some ⟨g1, 0, none⟩)) rfl rfl rfl (V.fieldBox rfl rfl Try.runUnderlying34 rfl Try.sizeOf3 rfl rfl) (fun a hf => ?_)
  refine S.val hf hs (v := .int .i64 p.X) rfl rfl rfl (V.loadBox 0 rfl rfl rfl Try.isAgg3 Try.sizeOf3 rfl rfl) (fun a hf => ?_)
  refine S.callv hf rfl rfl rfl (call_fn (vs := [.int .i64 p.X]) rfl rfl rfl Try.call23) (C_shape_IsAt p.X _ ) (fun a w hf hs' => ?_)
  replace hs := hs.call hs'; clear hs'
  refine S.split hf hs (b := (isAt p.X)) rfl rfl rfl (V.pure rfl) (fun hc a hf => ?_) (fun hc a hf => ?_)
  · replace h := h.1 hc
    refine S.val hf hs (v := .pointer (some ⟨g1, 1, none⟩)) rfl rfl rfl (V.fieldBox rfl rfl Try.runUnderlying34 rfl Try.sizeOf3 rfl rfl) (fun a hf => ?_)
    refine S.val hf hs (v := .int .i64 p.Y) rfl rfl rfl (V.loadBox 0 rfl rfl rfl Try.isAgg3 Try.sizeOf3 rfl rfl) (fun a hf => ?_)
    refine S.callv hf rfl rfl rfl (call_fn (vs := [.int .i64 p.Y]) rfl rfl rfl Try.call23) (C_shape_IsAt p.Y _ ) (fun a w hf hs' => ?_)
    replace hs := hs.call hs'; clear hs'
    refine S.val hf hs (v := .bool (isAt p.Y)) rfl rfl rfl (V.pure rfl) (fun a hf => ?_)
    refine S.val hf hs (v := .bool (isAt p.Y)) rfl rfl rfl (V.pure rfl) (fun a hf => ?_)
    refine R.nil ?_
    refine X.then_ ?_
    refine wp_ret ?_
    exact L.ret hf (run_results1 Try.results14 (ResIs.tmp hf rfl)) ⟨(isAt p.Y), rfl, h, hs.nil⟩
  · replace h := h.2 hc
    refine S.skip hf rfl rfl rfl (fun a hf => ?_)
    refine S.skip hf rfl rfl rfl (fun a hf => ?_)
    refine S.skip hf rfl rfl rfl (fun a hf => ?_)
    refine S.val hf hs (v := .bool false) rfl rfl rfl (V.pure rfl) (fun a hf => ?_)
    refine S.val hf hs (v := .bool false) rfl rfl rfl (V.pure rfl) (fun a hf => ?_)
    refine R.nil ?_
    refine X.then_ ?_
    refine wp_ret ?_
    exact L.ret hf (run_results1 Try.results14 (ResIs.tmp hf rfl)) ⟨false, rfl, h, hs.nil⟩

theorem E_shape_IsPoint (p : Point) : M_shape_IsPoint p (· = isPoint p) := by
  unfold M_shape_IsPoint isPoint isAt; constructor <;> intro h <;> simp_all <;> omega
theorem C_shape_IsPoint (p : Point) (w0 : World)  : Ret Try.prog 14 #[.agg #[.int .i64 p.X, .int .i64 p.Y]] w0 fun v w' => v = .bool (isPoint p) ∧ Sat w0 none_ [] w' :=
  (R_shape_IsPoint p w0  (· = (isPoint p)) (E_shape_IsPoint p)).mono fun v w' ⟨r0, hv, hr, hs⟩ => ⟨by subst hr; exact hv, hs⟩

set_option linter.unusedVariables false
def M_ref8_isPoint (p : Point) (Q : Bool → Prop) : Prop :=
  cnd (within p.X (-1000000) 1000000) (Q (within p.Y (-1000000) 1000000)) (Q false)
set_option maxHeartbeats 1000000 in
theorem R_ref8_isPoint (p : Point) (w0 : World)  (Q : Bool → Prop) (h : M_ref8_isPoint p Q) :
    Ret Try.prog 16 #[.agg #[.int .i64 p.X, .int .i64 p.Y]] w0 fun v w' => ∃ (r0 : Bool), v = .bool r0 ∧ Q r0 ∧ Sat w0 none_ [] w' := by
  refine fn_enter Try.func16 rfl Try.ntmps16 rfl (fs := [(0, .agg #[.int .i64 p.X, .int .i64 p.Y])]) rfl (fun a hf => ?_)
  have hs := Sat.start w0 none_
  unfold M_ref8_isPoint at h
  refine wp_seq ?_
  refine R.list ?_
  refine S.box hf hs rfl rfl rfl [.int .i64 p.X, .int .i64 p.Y] rfl rfl rfl (fun g1 a w hf hs => ?_)
  refine S.val hf hs (v := .bool false) rfl rfl rfl (V.pure rfl) (fun a hf => ?_)
  refine R.nil ?_
  refine X.then_ ?_
  refine wp_seq ?_
  refine R.list ?_
  refine S.val hf hs (v := .pointer (some ⟨g1, 0, none⟩)) rfl rfl rfl (V.fieldBox rfl rfl Try.runUnderlying34 rfl Try.sizeOf3 rfl rfl) (fun a hf => ?_)
  refine S.val hf hs (v := .int .i64 p.X) rfl rfl rfl (V.loadBox 0 rfl rfl rfl Try.isAgg3 Try.sizeOf3 rfl rfl) (fun a hf => ?_)
  refine S.callv hf rfl rfl rfl (call_fn (vs := [.int .i64 p.X, .int .i64 (-1000000), .int .i64 1000000]) rfl rfl rfl Try.call17) (C_ref8_within p.X (-1000000) 1000000 _ ) (fun a w hf hs' => ?_)
  replace hs := hs.call hs'; clear hs'
  refine S.split hf hs (b := (within p.X (-1000000) 1000000)) rfl rfl rfl (V.pure rfl) (fun hc a hf => ?_) (fun hc a hf => ?_)
  · replace h := h.1 hc
    refine S.val hf hs (v := .pointer (some ⟨g1, 1, none⟩)) rfl rfl rfl (V.fieldBox rfl rfl Try.runUnderlying34 rfl Try.sizeOf3 rfl rfl) (fun a hf => ?_)
    refine S.val hf hs (v := .int .i64 p.Y) rfl rfl rfl (V.loadBox 0 rfl rfl rfl Try.isAgg3 Try.sizeOf3 rfl rfl) (fun a hf => ?_)
    refine S.callv hf rfl rfl rfl (call_fn (vs := [.int .i64 p.Y, .int .i64 (-1000000), .int .i64 1000000]) rfl rfl rfl Try.call17) (C_ref8_within p.Y (-1000000) 1000000 _ ) (fun a w hf hs' => ?_)
    replace hs := hs.call hs'; clear hs'
    refine S.val hf hs (v := .bool (within p.Y (-1000000) 1000000)) rfl rfl rfl (V.pure rfl) (fun a hf => ?_)
    refine S.val hf hs (v := .bool (within p.Y (-1000000) 1000000)) rfl rfl rfl (V.pure rfl) (fun a hf => ?_)
    refine R.nil ?_
    refine X.then_ ?_
    refine wp_ret ?_
    exact L.ret hf (run_results1 Try.results16 (ResIs.tmp hf rfl)) ⟨(within p.Y (-1000000) 1000000), rfl, h, hs.nil⟩
  · replace h := h.2 hc
    refine S.skip hf rfl rfl rfl (fun a hf => ?_)
    refine S.skip hf rfl rfl rfl (fun a hf => ?_)
    refine S.skip hf rfl rfl rfl (fun a hf => ?_)
    refine S.val hf hs (v := .bool false) rfl rfl rfl (V.pure rfl) (fun a hf => ?_)
    refine S.val hf hs (v := .bool false) rfl rfl rfl (V.pure rfl) (fun a hf => ?_)
    refine R.nil ?_
    refine X.then_ ?_
    refine wp_ret ?_
    exact L.ret hf (run_results1 Try.results16 (ResIs.tmp hf rfl)) ⟨false, rfl, h, hs.nil⟩

theorem E_ref8_isPoint (p : Point) : M_ref8_isPoint p (· = isPoint p) := by
  unfold M_ref8_isPoint isPoint; constructor <;> intro h <;> simp_all <;> omega
theorem C_ref8_isPoint (p : Point) (w0 : World)  : Ret Try.prog 16 #[.agg #[.int .i64 p.X, .int .i64 p.Y]] w0 fun v w' => v = .bool (isPoint p) ∧ Sat w0 none_ [] w' :=
  (R_ref8_isPoint p w0  (· = (isPoint p)) (E_ref8_isPoint p)).mono fun v w' ⟨r0, hv, hr, hs⟩ => ⟨by subst hr; exact hv, hs⟩

set_option linter.unusedVariables false
def M_drill_apart (a_ : Int) (b : Int) (Q : Int → Prop) : Prop :=
  Q (max (w64 (a_ - b)) (w64 (b - a_)))
set_option maxHeartbeats 1000000 in
theorem R_drill_apart (a_ : Int) (b : Int) (w0 : World)  (Q : Int → Prop) (h : M_drill_apart a_ b Q) :
    Ret Try.prog 51 #[.int .i64 a_, .int .i64 b] w0 fun v w' => ∃ (r0 : Int), v = .int .i64 r0 ∧ Q r0 ∧ Sat w0 none_ [] w' := by
  refine fn_enter Try.func51 rfl Try.ntmps51 rfl (fs := [(0, .int .i64 a_), (1, .int .i64 b)]) rfl (fun a hf => ?_)
  have hs := Sat.start w0 none_
  unfold M_drill_apart at h
  refine wp_seq ?_
  refine R.list ?_
  refine S.val hf hs (v := .int .i64 0) rfl rfl rfl (V.pure rfl) (fun a hf => ?_)
  refine R.nil ?_
  refine X.then_ ?_
  refine wp_seq ?_
  refine R.list ?_
  refine S.val hf hs (v := .int .i64 a_) rfl rfl rfl (V.pure rfl) (fun a hf => ?_)
  refine S.val hf hs (v := .int .i64 b) rfl rfl rfl (V.pure rfl) (fun a hf => ?_)
  refine S.val hf hs (v := .int .i64 (w64 (a_ - b))) rfl rfl rfl (V.pure rfl) (fun a hf => ?_)
  refine S.val hf hs (v := .int .i64 b) rfl rfl rfl (V.pure rfl) (fun a hf => ?_)
  refine S.val hf hs (v := .int .i64 a_) rfl rfl rfl (V.pure rfl) (fun a hf => ?_)
  refine S.val hf hs (v := .int .i64 (w64 (b - a_))) rfl rfl rfl (V.pure rfl) (fun a hf => ?_)
  refine S.val hf hs (v := .int .i64 (max (w64 (a_ - b)) (w64 (b - a_)))) rfl rfl rfl (V.max2 rfl rfl rfl) (fun a hf => ?_)
  refine S.val hf hs (v := .int .i64 (max (w64 (a_ - b)) (w64 (b - a_)))) rfl rfl rfl (V.pure rfl) (fun a hf => ?_)
  refine R.nil ?_
  refine X.then_ ?_
  refine wp_ret ?_
  exact L.ret hf (run_results1 Try.results51 (ResIs.tmp hf rfl)) ⟨(max (w64 (a_ - b)) (w64 (b - a_))), rfl, h, hs.nil⟩

theorem E_drill_apart (a b : Int) : M_drill_apart a b (· = apart a b) := rfl
theorem C_drill_apart (a_ : Int) (b : Int) (w0 : World)  : Ret Try.prog 51 #[.int .i64 a_, .int .i64 b] w0 fun v w' => v = .int .i64 (apart a_ b) ∧ Sat w0 none_ [] w' :=
  (R_drill_apart a_ b w0  (· = (apart a_ b)) (E_drill_apart a_ b)).mono fun v w' ⟨r0, hv, hr, hs⟩ => ⟨by subst hr; exact hv, hs⟩

set_option linter.unusedVariables false
def M_drill_far (p : Point) (q : Point) (Q : Int → Prop) : Prop :=
  Q (max (apart p.X q.X) (apart p.Y q.Y))
set_option maxHeartbeats 1000000 in
theorem R_drill_far (p : Point) (q : Point) (w0 : World)  (Q : Int → Prop) (h : M_drill_far p q Q) :
    Ret Try.prog 42 #[.agg #[.int .i64 p.X, .int .i64 p.Y], .agg #[.int .i64 q.X, .int .i64 q.Y]] w0 fun v w' => ∃ (r0 : Int), v = .int .i64 r0 ∧ Q r0 ∧ Sat w0 none_ [] w' := by
  refine fn_enter Try.func42 rfl Try.ntmps42 rfl (fs := [(0, .agg #[.int .i64 p.X, .int .i64 p.Y]), (1, .agg #[.int .i64 q.X, .int .i64 q.Y])]) rfl (fun a hf => ?_)
  have hs := Sat.start w0 none_
  unfold M_drill_far at h
  refine wp_seq ?_
  refine R.list ?_
  refine S.box hf hs rfl rfl rfl [.int .i64 p.X, .int .i64 p.Y] rfl rfl rfl (fun g1 a w hf hs => ?_)
  refine S.box hf hs rfl rfl rfl [.int .i64 q.X, .int .i64 q.Y] rfl rfl rfl (fun g2 a w hf hs => ?_)
  refine S.val hf hs (v := .int .i64 0) rfl rfl rfl (V.pure rfl) (fun a hf => ?_)
  refine R.nil ?_
  refine X.then_ ?_
  refine wp_seq ?_
  refine R.draw mo (by kernel_rfl) hs ?_
  refine D.val hf (v := .pointer (some ⟨g1, 0, none⟩)) rfl rfl rfl (V.fieldBox rfl rfl Try.runUnderlying34 rfl Try.sizeOf3 rfl rfl) (fun a hf => ?_)
  refine D.val hf (v := .int .i64 p.X) rfl rfl rfl (V.loadBox 1 rfl rfl rfl Try.isAgg3 Try.sizeOf3 rfl rfl) (fun a hf => ?_)
  refine D.val hf (v := .pointer (some ⟨g2, 0, none⟩)) rfl rfl rfl (V.fieldBox rfl rfl Try.runUnderlying34 rfl Try.sizeOf3 rfl rfl) (fun a hf => ?_)
  refine D.val hf (v := .int .i64 q.X) rfl rfl rfl (V.loadBox 0 rfl rfl rfl Try.isAgg3 Try.sizeOf3 rfl rfl) (fun a hf => ?_)
  refine D.call hf (v := .int .i64 (apart p.X q.X)) rfl rfl rfl (call_fn (vs := [.int .i64 p.X, .int .i64 q.X]) rfl rfl rfl Try.call51) (fun w hs => Ret.quiet hs (C_drill_apart p.X q.X w )) (fun a hf => ?_)
  refine D.val hf (v := .pointer (some ⟨g1, 1, none⟩)) rfl rfl rfl (V.fieldBox rfl rfl Try.runUnderlying34 rfl Try.sizeOf3 rfl rfl) (fun a hf => ?_)
  refine D.val hf (v := .int .i64 p.Y) rfl rfl rfl (V.loadBox 1 rfl rfl rfl Try.isAgg3 Try.sizeOf3 rfl rfl) (fun a hf => ?_)
  refine D.val hf (v := .pointer (some ⟨g2, 1, none⟩)) rfl rfl rfl (V.fieldBox rfl rfl Try.runUnderlying34 rfl Try.sizeOf3 rfl rfl) (fun a hf => ?_)
  refine D.val hf (v := .int .i64 q.Y) rfl rfl rfl (V.loadBox 0 rfl rfl rfl Try.isAgg3 Try.sizeOf3 rfl rfl) (fun a hf => ?_)
  refine D.call hf (v := .int .i64 (apart p.Y q.Y)) rfl rfl rfl (call_fn (vs := [.int .i64 p.Y, .int .i64 q.Y]) rfl rfl rfl Try.call51) (fun w hs => Ret.quiet hs (C_drill_apart p.Y q.Y w )) (fun a hf => ?_)
  refine D.val hf (v := .int .i64 (max (apart p.X q.X) (apart p.Y q.Y))) rfl rfl rfl (V.max2 rfl rfl rfl) (fun a hf => ?_)
  refine D.val hf (v := .int .i64 (max (apart p.X q.X) (apart p.Y q.Y))) rfl rfl rfl (V.pure rfl) (fun a hf => ?_)
  refine D.done (fun w hs => ?_)
  refine X.then_ ?_
  refine wp_ret ?_
  exact L.ret hf (run_results1 Try.results42 (ResIs.tmp hf rfl)) ⟨(max (apart p.X q.X) (apart p.Y q.Y)), rfl, h, hs.nil⟩

theorem E_drill_far (p q : Point) : M_drill_far p q (· = far p q) := rfl
theorem C_drill_far (p : Point) (q : Point) (w0 : World)  : Ret Try.prog 42 #[.agg #[.int .i64 p.X, .int .i64 p.Y], .agg #[.int .i64 q.X, .int .i64 q.Y]] w0 fun v w' => v = .int .i64 (far p q) ∧ Sat w0 none_ [] w' :=
  (R_drill_far p q w0  (· = (far p q)) (E_drill_far p q)).mono fun v w' ⟨r0, hv, hr, hs⟩ => ⟨by subst hr; exact hv, hs⟩

/-! ### the checks of points -/
set_option linter.unusedVariables false
def M_drill_checkPoints1 (p : Point) (Q : Bool → Prop) : Prop :=
  Q (!(isPoint p))
set_option maxHeartbeats 1000000 in
theorem R_drill_checkPoints1 (p : Point) (w0 : World)  (Q : Bool → Prop) (h : M_drill_checkPoints1 p Q) :
    Ret Try.prog 41 #[.agg #[.int .i64 p.X, .int .i64 p.Y]] w0 fun v w' => ∃ (r0 : Bool), v = .bool r0 ∧ Q r0 ∧ Sat w0 none_ [] w' := by
  refine fn_enter Try.func41 rfl Try.ntmps41 rfl (fs := [(0, .agg #[.int .i64 p.X, .int .i64 p.Y])]) rfl (fun a hf => ?_)
  have hs := Sat.start w0 none_
  unfold M_drill_checkPoints1 at h
  refine wp_seq ?_
  refine R.list ?_
  refine S.box hf hs rfl rfl rfl [.int .i64 p.X, .int .i64 p.Y] rfl rfl rfl (fun g1 a w hf hs => ?_)
  refine S.val hf hs (v := .bool false) rfl rfl rfl (V.pure rfl) (fun a hf => ?_)
  refine R.nil ?_
  refine X.then_ ?_
  refine wp_seq ?_
  refine R.list ?_
  refine S.val hf hs (v := .agg #[.int .i64 p.X, .int .i64 p.Y]) rfl rfl rfl (V.loadBox 0 rfl rfl rfl Try.isAgg34 Try.sizeOf34 rfl rfl) (fun a hf => ?_)
  refine S.callv hf rfl rfl rfl (call_fn (vs := [.agg #[.int .i64 p.X, .int .i64 p.Y]]) rfl rfl rfl Try.call14) (C_shape_IsPoint p _ ) (fun a w hf hs' => ?_)
  replace hs := hs.call hs'; clear hs'
  refine S.val hf hs (v := .bool (!(isPoint p))) rfl rfl rfl (V.pure rfl) (fun a hf => ?_)
  refine S.val hf hs (v := .bool (!(isPoint p))) rfl rfl rfl (V.pure rfl) (fun a hf => ?_)
  refine R.nil ?_
  refine X.then_ ?_
  refine wp_ret ?_
  exact L.ret hf (run_results1 Try.results41 (ResIs.tmp hf rfl)) ⟨(!(isPoint p)), rfl, h, hs.nil⟩

theorem E_drill_checkPoints1 (p : Point) : M_drill_checkPoints1 p (· = !(isPoint p)) := rfl
def notPoint (p : Point) : Bool := !(isPoint p)
theorem C_drill_checkPoints1 (p : Point) (w0 : World)  : Ret Try.prog 41 #[.agg #[.int .i64 p.X, .int .i64 p.Y]] w0 fun v w' => v = .bool (notPoint p) ∧ Sat w0 none_ [] w' :=
  (R_drill_checkPoints1 p w0  (· = (notPoint p)) (E_drill_checkPoints1 p)).mono fun v w' ⟨r0, hv, hr, hs⟩ => ⟨by subst hr; exact hv, hs⟩

set_option linter.unusedVariables false
def M_index_notPoint_L1 (Q : Int → Prop) (k1 : Nat) (xk1 : Point)  (next1 : Prop) : Prop :=
  cnd (notPoint xk1) (Q (k1 : Int)) (next1)
def M_index_notPoint (l : (List Point)) (Q : Int → Prop) : Prop :=
  forIn' (fun k x (s : Unit) next => M_index_notPoint_L1 Q k x (next ())) (fun (s : Unit) => Q (-1)) l 0 ()
set_option maxHeartbeats 1000000 in
theorem R_index_notPoint (l : (List Point)) (w0 : World) (lA : Option Addr) (lC : Nat) (hv_l : View w0 (old w0 none_) lA lC l) (Q : Int → Prop) (h : M_index_notPoint l Q) :
    Ret Try.prog 50 #[.slice lA l.length lC, .func (.func 41) #[] #[]] w0 fun v w' => ∃ (r0 : Int), v = .int .i64 r0 ∧ Q r0 ∧ Sat w0 none_ [] w' := by
  refine fn_enter Try.func50 rfl Try.ntmps50 rfl (fs := [(0, .slice lA l.length lC), (1, .func (.func 41) #[] #[])]) rfl (fun a hf => ?_)
  have hs := Sat.start w0 none_
  unfold M_index_notPoint at h
  refine wp_seq ?_
  refine R.list ?_
  refine S.val hf hs (v := .int .i64 0) rfl rfl rfl (V.pure rfl) (fun a hf => ?_)
  refine R.nil ?_
  refine X.then_ ?_
  refine wp_seq ?_
  refine wp_seq ?_
  refine R.list ?_
  refine S.val hf hs (v := .slice lA l.length lC) rfl rfl rfl (V.pure rfl) (fun a hf => ?_)
  refine S.val hf hs (v := .int .i64 (l.length : Int)) rfl rfl rfl (V.len rfl rfl Try.runUnderlying46) (fun a hf => ?_)
  refine S.val hf hs (v := .int .i64 0) rfl rfl rfl (V.pure rfl) (fun a hf => ?_)
  refine R.nil ?_
  refine X.then_ ?_
  refine wp_block ?_
  have hlenk1 := hv_l.len64
  refine C.range (fun (ll : List Point) a w => ∃ (k1 : Nat) , l.drop k1 = ll ∧ k1 + ll.length = l.length ∧ forIn' (fun k x (s : Unit) next => M_index_notPoint_L1 Q k x (next ())) (fun (s : Unit) => Q (-1)) ll k1 () ∧ FrOk 19 [(8, .int .i64 (k1 : Int)), (0, .slice lA l.length lC), (1, .func (.func 41) #[] #[]), (7, .int .i64 (l.length : Int))] a ∧ Sat w0 none_ [] w) l ⟨0, rfl, Nat.zero_add _, h, ((((hf.nil.cons (hf.get 7 _ rfl)).cons (hf.get 1 _ rfl)).cons (hf.get 0 _ rfl)).cons (hf.get 8 _ rfl)), hs⟩ ?_
  clear h hf hs
  rintro llk1 a w ⟨k1, hlk1, hkk1, h, hf, hs⟩
  cases llk1 with
  | nil =>
    have hc := range_done hkk1
    replace h : Q (-1) := h
    refine wp_seq ?_
    refine R.list ?_
    refine S.val hf hs (v := .bool false) rfl rfl rfl (V.cmp false rfl rfl rfl rfl hc) (fun a hf => ?_)
    refine R.nil ?_
    refine X.then_ ?_
    refine wp_seq ?_
    refine C.no hf rfl ?_
    refine wp_exit ?_
    refine X.then_exit ?_
    refine X.then_exit ?_
    refine X.blk_exit ?_
    refine X.then_ ?_
    refine wp_seq ?_
    refine R.list ?_
    refine S.val hf hs (v := .int .i64 (-1)) rfl rfl rfl (V.pure rfl) (fun a hf => ?_)
    refine R.nil ?_
    refine X.then_ ?_
    refine wp_ret ?_
    exact L.ret hf (run_results1 Try.results50 (ResIs.tmp hf rfl)) ⟨(-1), rfl, h, hs.nil⟩
  | cons xk1 llk1 =>
    have hltk1 := range_lt hkk1; have hc := range_go hkk1; have hxk1 := range_get hlk1
    obtain ⟨next1, hnext1⟩ : ∃ X : Prop, X = (forIn' (fun k x (s : Unit) next => M_index_notPoint_L1 Q k x (next ())) (fun (s : Unit) => Q (-1)) llk1 (k1 + 1) ()) := ⟨_, rfl⟩
    replace h : M_index_notPoint_L1 Q k1 xk1  next1 := by rw [hnext1]; exact h
    unfold M_index_notPoint_L1 at h
    refine wp_seq ?_
    refine R.list ?_
    refine S.val hf hs (v := .bool true) rfl rfl rfl (V.cmp true rfl rfl rfl rfl hc) (fun a hf => ?_)
    refine R.nil ?_
    refine X.then_ ?_
    refine wp_seq ?_
    refine C.yes hf rfl ?_
    refine wp_skip ?_
    refine X.then_ ?_
    refine wp_seq ?_
    refine wp_block ?_
    refine wp_seq ?_
    refine R.list ?_
    refine S.val hf hs (v := .int .i64 (k1 : Int)) rfl rfl rfl (V.pure rfl) (fun a hf => ?_)
    refine S.val hf hs (v := .int .i64 (k1 : Int)) rfl rfl rfl (V.pure rfl) (fun a hf => ?_)
    refine R.nil ?_
    refine X.then_ ?_
    refine wp_seq ?_
    refine R.list ?_
    refine S.val hf hs (v := .func (.func 41) #[] #[]) rfl rfl rfl (V.pure rfl) (fun a hf => ?_)
    refine S.val hf hs (v := .slice lA l.length lC) rfl rfl rfl (V.pure rfl) (fun a hf => ?_)
    refine S.val hf hs (v := .int .i64 (k1 : Int)) rfl rfl rfl (V.pure rfl) (fun a hf => ?_)
    refine S.val hf hs (v := elemPtr lA (k1 * 2)) rfl rfl rfl (V.index rfl rfl rfl Try.runUnderlying46 Try.sizeOf34 (hv_l.some_ (lt_of_get hxk1)) (Int.natCast_nonneg _) (lt_of_get hxk1) rfl) (fun a hf => ?_)
    refine S.val hf hs (v := .agg #[.int .i64 xk1.X, .int .i64 xk1.Y]) rfl rfl rfl (V.loadEl (off := 0) (Ag.args _ _ _) (hv_l.flat hxk1) rfl rfl rfl Try.isAgg34 Try.sizeOf34 rfl rfl) (fun a hf => ?_)
    refine S.callv hf rfl rfl rfl (call_fn (vs := [.agg #[.int .i64 xk1.X, .int .i64 xk1.Y]]) rfl rfl rfl Try.call41) (C_drill_checkPoints1 xk1 _ ) (fun a w hf hs' => ?_)
    replace hs := hs.call hs'; clear hs'
    refine R.nil ?_
    refine X.then_ ?_
    refine C.cond hf (b := (notPoint xk1)) rfl (fun hc => ?_) (fun hc => ?_)
    · replace h := h.1 hc
      refine wp_seq ?_
      refine R.list ?_
      refine S.val hf hs (v := .int .i64 (k1 : Int)) rfl rfl rfl (V.pure rfl) (fun a hf => ?_)
      refine S.val hf hs (v := .int .i64 (k1 : Int)) rfl rfl rfl (V.pure rfl) (fun a hf => ?_)
      refine R.nil ?_
      refine X.then_ ?_
      refine wp_ret ?_
      refine X.blk_ret ?_
      refine X.then_ret ?_
      refine X.then_ret ?_
      refine X.blk_ret ?_
      refine X.then_ret ?_
      exact L.ret hf (run_results1 Try.results50 (ResIs.tmp hf rfl)) ⟨(k1 : Int), rfl, h, hs.nil⟩
    · replace h := h.2 hc
      refine wp_skip ?_
      refine X.blk ?_
      refine X.then_ ?_
      refine R.list ?_
      refine S.val hf hs (v := .int .i64 ((k1 + 1 : Nat) : Int)) rfl rfl rfl (V.incr rfl rfl rfl hltk1 hlenk1) (fun a hf => ?_)
      refine S.val hf hs (v := .int .i64 ((k1 + 1 : Nat) : Int)) rfl rfl rfl (V.pure rfl) (fun a hf => ?_)
      refine R.nil ?_
      refine X.then_ ?_
      exact ⟨xk1, llk1, rfl, k1 + 1, range_drop hlk1, range_len hkk1, (by rw [hnext1] at h; exact h), ((((hf.nil.cons (hf.get 7 _ rfl)).cons (hf.get 1 _ rfl)).cons (hf.get 0 _ rfl)).cons (hf.get 8 _ rfl)), hs⟩

set_option linter.unusedVariables false
def M_contains_notPoint (l : (List Point)) (Q : Bool → Prop) : Prop :=
  M_index_notPoint l fun y1 => Q (decide (y1 ≥ 0))
set_option maxHeartbeats 1000000 in
theorem R_contains_notPoint (l : (List Point)) (w0 : World) (lA : Option Addr) (lC : Nat) (hv_l : View w0 (old w0 none_) lA lC l) (Q : Bool → Prop) (h : M_contains_notPoint l Q) :
    Ret Try.prog 40 #[.slice lA l.length lC, .func (.func 41) #[] #[]] w0 fun v w' => ∃ (r0 : Bool), v = .bool r0 ∧ Q r0 ∧ Sat w0 none_ [] w' := by
  refine fn_enter Try.func40 rfl Try.ntmps40 rfl (fs := [(0, .slice lA l.length lC), (1, .func (.func 41) #[] #[])]) rfl (fun a hf => ?_)
  have hs := Sat.start w0 none_
  unfold M_contains_notPoint at h
  refine wp_seq ?_
  refine R.list ?_
  refine S.val hf hs (v := .bool false) rfl rfl rfl (V.pure rfl) (fun a hf => ?_)
  refine R.nil ?_
  refine X.then_ ?_
  refine wp_seq ?_
  refine R.list ?_
  refine S.val hf hs (v := .slice lA l.length lC) rfl rfl rfl (V.pure rfl) (fun a hf => ?_)
  refine S.val hf hs (v := .func (.func 41) #[] #[]) rfl rfl rfl (V.pure rfl) (fun a hf => ?_)
  refine S.call hf rfl rfl rfl (call_fn (vs := [.slice lA l.length lC, .func (.func 41) #[] #[]]) rfl rfl rfl Try.call50) (R_index_notPoint l _ lA lC ((Ag.args _ _ _).view hv_l hs) _ h) (fun v a w' hf hr => ?_)
  obtain ⟨y1, rfl, h2, hs2⟩ := hr
  replace h := h2; replace hs := hs.call hs2; clear h2 hs2
  refine S.val hf hs (v := .bool (decide (y1 ≥ 0))) rfl rfl rfl (V.pure rfl) (fun a hf => ?_)
  refine S.val hf hs (v := .bool (decide (y1 ≥ 0))) rfl rfl rfl (V.pure rfl) (fun a hf => ?_)
  refine R.nil ?_
  refine X.then_ ?_
  refine wp_ret ?_
  exact L.ret hf (run_results1 Try.results40 (ResIs.tmp hf rfl)) ⟨(decide (y1 ≥ 0)), rfl, h, hs.nil⟩

set_option linter.unusedVariables false
def M_drill_checkPoints_k1 (Q : Int → Prop) (c1 : Bool) : Prop :=
  cnd c1 (Q 1) (Q 0)
def M_drill_checkPoints (l : (List Point)) (from_ : Point) (most : Int) (Q : Int → Prop) : Prop :=
  cnd (decide ((l.length : Int) > most)) (Q 2) (cnd (!(isPoint from_)) (M_drill_checkPoints_k1 Q true) (M_contains_notPoint l fun y1 => M_drill_checkPoints_k1 Q y1))
set_option maxHeartbeats 1000000 in
theorem R_drill_checkPoints (l : (List Point)) (from_ : Point) (most : Int) (w0 : World) (lA : Option Addr) (lC : Nat) (hv_l : View w0 (old w0 none_) lA lC l) (Q : Int → Prop) (h : M_drill_checkPoints l from_ most Q) :
    Ret Try.prog 25 #[.slice lA l.length lC, .agg #[.int .i64 from_.X, .int .i64 from_.Y], .int .i64 most] w0 fun v w' => ∃ (r0 : Int), v = .int .i64 r0 ∧ Q r0 ∧ Sat w0 none_ [] w' := by
  refine fn_enter Try.func25 rfl Try.ntmps25 rfl (fs := [(0, .slice lA l.length lC), (1, .agg #[.int .i64 from_.X, .int .i64 from_.Y]), (2, .int .i64 most)]) rfl (fun a hf => ?_)
  have hs := Sat.start w0 none_
  unfold M_drill_checkPoints at h
  refine wp_seq ?_
  refine R.list ?_
  refine S.box hf hs rfl rfl rfl [.int .i64 from_.X, .int .i64 from_.Y] rfl rfl rfl (fun g1 a w hf hs => ?_)
  refine S.val hf hs (v := .int .i64 0) rfl rfl rfl (V.pure rfl) (fun a hf => ?_)
  refine R.nil ?_
  refine X.then_ ?_
  refine wp_seq ?_
  refine wp_seq ?_
  refine R.list ?_
  refine S.val hf hs (v := .slice lA l.length lC) rfl rfl rfl (V.pure rfl) (fun a hf => ?_)
  refine S.val hf hs (v := .int .i64 (l.length : Int)) rfl rfl rfl (V.len rfl rfl Try.runUnderlying46) (fun a hf => ?_)
  refine S.val hf hs (v := .int .i64 most) rfl rfl rfl (V.pure rfl) (fun a hf => ?_)
  refine S.val hf hs (v := .bool (decide ((l.length : Int) > most))) rfl rfl rfl (V.pure rfl) (fun a hf => ?_)
  refine R.nil ?_
  refine X.then_ ?_
  refine C.cond hf (b := decide ((l.length : Int) > most)) rfl (fun hc => ?_) (fun hc => ?_)
  · replace h := h.1 hc
    refine wp_seq ?_
    refine R.list ?_
    refine S.val hf hs (v := .int .i64 2) rfl rfl rfl (V.pure rfl) (fun a hf => ?_)
    refine R.nil ?_
    refine X.then_ ?_
    refine wp_ret ?_
    refine X.then_ret ?_
    exact L.ret hf (run_results1 Try.results25 (ResIs.tmp hf rfl)) ⟨2, rfl, h, hs.nil⟩
  · replace h := h.2 hc
    refine wp_skip ?_
    refine X.then_ ?_
    refine wp_seq ?_
    refine wp_seq ?_
    refine C.cut (J := fun a w => ∃ (c1 : Bool), M_drill_checkPoints_k1 Q c1 ∧ FrOk 18 [(17, .bool c1)] a ∧ Sat w0 none_ [hbox g1 34 [.int .i64 from_.X, .int .i64 from_.Y]] w) ?_ ?_
    · rintro a w ⟨c1, h, hf, hs⟩
      unfold M_drill_checkPoints_k1 at h
      refine C.cond hf (b := c1) rfl (fun hc => ?_) (fun hc => ?_)
      · replace h := h.1 hc
        refine wp_seq ?_
        refine R.list ?_
        refine S.val hf hs (v := .int .i64 1) rfl rfl rfl (V.pure rfl) (fun a hf => ?_)
        refine R.nil ?_
        refine X.then_ ?_
        refine wp_ret ?_
        refine X.then_ret ?_
        exact L.ret hf (run_results1 Try.results25 (ResIs.tmp hf rfl)) ⟨1, rfl, h, hs.nil⟩
      · replace h := h.2 hc
        refine wp_skip ?_
        refine X.then_ ?_
        refine wp_seq ?_
        refine R.list ?_
        refine S.val hf hs (v := .int .i64 0) rfl rfl rfl (V.pure rfl) (fun a hf => ?_)
        refine R.nil ?_
        refine X.then_ ?_
        refine wp_ret ?_
        exact L.ret hf (run_results1 Try.results25 (ResIs.tmp hf rfl)) ⟨0, rfl, h, hs.nil⟩
    · skip
      refine R.list ?_
      refine S.val hf hs (v := .agg #[.int .i64 from_.X, .int .i64 from_.Y]) rfl rfl rfl (V.loadBox 0 rfl rfl rfl Try.isAgg34 Try.sizeOf34 rfl rfl) (fun a hf => ?_)
      refine S.callv hf rfl rfl rfl (call_fn (vs := [.agg #[.int .i64 from_.X, .int .i64 from_.Y]]) rfl rfl rfl Try.call14) (C_shape_IsPoint from_ _ ) (fun a w hf hs' => ?_)
      replace hs := hs.call hs'; clear hs'
      refine S.val hf hs (v := .bool (!(isPoint from_))) rfl rfl rfl (V.pure rfl) (fun a hf => ?_)
      refine S.split hf hs (b := !(isPoint from_)) rfl rfl rfl (V.pure rfl) (fun hc a hf => ?_) (fun hc a hf => ?_)
      · replace h := h.1 hc
        refine S.skip hf rfl rfl rfl (fun a hf => ?_)
        refine S.skip hf rfl rfl rfl (fun a hf => ?_)
        refine S.val hf hs (v := .bool true) rfl rfl rfl (V.pure rfl) (fun a hf => ?_)
        refine R.nil ?_
        refine X.then_ ?_
        exact ⟨true, h, (hf.nil.cons (hf.get 17 _ rfl)), hs⟩
      · replace h := h.2 hc
        refine S.val hf hs (v := .slice lA l.length lC) rfl rfl rfl (V.pure rfl) (fun a hf => ?_)
        refine S.call hf rfl rfl rfl (call_fn (vs := [.slice lA l.length lC, .func (.func 41) #[] #[]]) rfl rfl rfl Try.call40) (R_contains_notPoint l _ lA lC ((Ag.args _ _ _).view hv_l hs) _ h) (fun v a w' hf hr => ?_)
        obtain ⟨y1, rfl, h2, hs2⟩ := hr
        replace h := h2; replace hs := hs.call hs2; clear h2 hs2
        refine S.val hf hs (v := .bool y1) rfl rfl rfl (V.pure rfl) (fun a hf => ?_)
        refine R.nil ?_
        refine X.then_ ?_
        exact ⟨y1, h, (hf.nil.cons (hf.get 17 _ rfl)), hs⟩

set_option linter.unusedVariables false
def M_drill_way_L1  (k1 : Nat) (xk1 : Point) (b2 : Point) (n2 : Int) (next1 : Point → Int → Prop) : Prop :=
  next1 xk1 (w64 (n2 + (far b2 xk1)))
def M_drill_way (l : (List Point)) (from_ : Point) (Q : Int → Prop) : Prop :=
  forIn' (fun k x (s : Point × Int) next => M_drill_way_L1 k x s.1 s.2 (fun b2 n2 => next (b2, n2))) (fun (s : Point × Int) => (fun (b2 : Point) (n2 : Int) => Q n2) s.1 s.2) l 0 (from_, 0)
set_option maxHeartbeats 1000000 in
theorem R_drill_way (l : (List Point)) (from_ : Point) (w0 : World) (lA : Option Addr) (lC : Nat) (hv_l : View w0 (old w0 none_) lA lC l) (Q : Int → Prop) (h : M_drill_way l from_ Q) :
    Ret Try.prog 26 #[.slice lA l.length lC, .agg #[.int .i64 from_.X, .int .i64 from_.Y]] w0 fun v w' => ∃ (r0 : Int), v = .int .i64 r0 ∧ Q r0 ∧ Sat w0 none_ [] w' := by
  refine fn_enter Try.func26 rfl Try.ntmps26 rfl (fs := [(0, .slice lA l.length lC), (1, .agg #[.int .i64 from_.X, .int .i64 from_.Y])]) rfl (fun a hf => ?_)
  have hs := Sat.start w0 none_
  unfold M_drill_way at h
  refine wp_seq ?_
  refine R.list ?_
  refine S.box hf hs rfl rfl rfl [.int .i64 from_.X, .int .i64 from_.Y] rfl rfl rfl (fun g1 a w hf hs => ?_)
  refine S.val hf hs (v := .int .i64 0) rfl rfl rfl (V.pure rfl) (fun a hf => ?_)
  refine R.nil ?_
  refine X.then_ ?_
  refine wp_seq ?_
  refine R.list ?_
  refine S.val hf hs (v := .int .i64 0) rfl rfl rfl (V.pure rfl) (fun a hf => ?_)
  refine R.nil ?_
  refine X.then_ ?_
  refine wp_seq ?_
  refine wp_seq ?_
  refine R.list ?_
  refine S.val hf hs (v := .slice lA l.length lC) rfl rfl rfl (V.pure rfl) (fun a hf => ?_)
  refine S.val hf hs (v := .int .i64 (l.length : Int)) rfl rfl rfl (V.len rfl rfl Try.runUnderlying46) (fun a hf => ?_)
  refine S.val hf hs (v := .int .i64 0) rfl rfl rfl (V.pure rfl) (fun a hf => ?_)
  refine R.nil ?_
  refine X.then_ ?_
  refine wp_block ?_
  have hlenk1 := hv_l.len64
  refine C.range (fun (ll : List Point) a w => ∃ (k1 : Nat) (b2 : Point) (n2 : Int), l.drop k1 = ll ∧ k1 + ll.length = l.length ∧ forIn' (fun k x (s : Point × Int) next => M_drill_way_L1 k x s.1 s.2 (fun b2 n2 => next (b2, n2))) (fun (s : Point × Int) => (fun (b2 : Point) (n2 : Int) => Q n2) s.1 s.2) ll k1 (b2, n2) ∧ FrOk 22 [(10, .int .i64 (k1 : Int)), (3, .pointer (some ⟨g1, 0, none⟩)), (5, .int .i64 n2), (8, .slice lA l.length lC), (9, .int .i64 (l.length : Int))] a ∧ Sat w0 none_ [hbox g1 34 [.int .i64 b2.X, .int .i64 b2.Y]] w) l ⟨0, from_, 0, rfl, Nat.zero_add _, h, (((((hf.nil.cons (hf.get 9 _ rfl)).cons (hf.get 8 _ rfl)).cons (hf.get 5 _ rfl)).cons (hf.get 3 _ rfl)).cons (hf.get 10 _ rfl)), hs⟩ ?_
  clear h hf hs
  rintro llk1 a w ⟨k1, b2, n2, hlk1, hkk1, h, hf, hs⟩
  cases llk1 with
  | nil =>
    have hc := range_done hkk1
    replace h : (fun (b2 : Point) (n2 : Int) => Q n2) b2 n2 := h
    refine wp_seq ?_
    refine R.list ?_
    refine S.val hf hs (v := .bool false) rfl rfl rfl (V.cmp false rfl rfl rfl rfl hc) (fun a hf => ?_)
    refine R.nil ?_
    refine X.then_ ?_
    refine wp_seq ?_
    refine C.no hf rfl ?_
    refine wp_exit ?_
    refine X.then_exit ?_
    refine X.then_exit ?_
    refine X.blk_exit ?_
    refine X.then_ ?_
    refine wp_seq ?_
    refine R.list ?_
    refine S.val hf hs (v := .int .i64 n2) rfl rfl rfl (V.pure rfl) (fun a hf => ?_)
    refine S.val hf hs (v := .int .i64 n2) rfl rfl rfl (V.pure rfl) (fun a hf => ?_)
    refine R.nil ?_
    refine X.then_ ?_
    refine wp_ret ?_
    exact L.ret hf (run_results1 Try.results26 (ResIs.tmp hf rfl)) ⟨n2, rfl, h, hs.nil⟩
  | cons xk1 llk1 =>
    have hltk1 := range_lt hkk1; have hc := range_go hkk1; have hxk1 := range_get hlk1
    obtain ⟨next1, hnext1⟩ : ∃ X : Point → Int → Prop, X = (fun b2 n2 => forIn' (fun k x (s : Point × Int) next => M_drill_way_L1 k x s.1 s.2 (fun b2 n2 => next (b2, n2))) (fun (s : Point × Int) => (fun (b2 : Point) (n2 : Int) => Q n2) s.1 s.2) llk1 (k1 + 1) (b2, n2)) := ⟨_, rfl⟩
    replace h : M_drill_way_L1 k1 xk1 b2 n2 next1 := by rw [hnext1]; exact h
    unfold M_drill_way_L1 at h
    refine wp_seq ?_
    refine R.list ?_
    refine S.val hf hs (v := .bool true) rfl rfl rfl (V.cmp true rfl rfl rfl rfl hc) (fun a hf => ?_)
    refine R.nil ?_
    refine X.then_ ?_
    refine wp_seq ?_
    refine C.yes hf rfl ?_
    refine wp_skip ?_
    refine X.then_ ?_
    refine wp_seq ?_
    refine wp_block ?_
    refine wp_seq ?_
    refine R.list ?_
    refine S.val hf hs (v := elemPtr lA (k1 * 2)) rfl rfl rfl (V.index rfl rfl rfl Try.runUnderlying46 Try.sizeOf34 (hv_l.some_ (lt_of_get hxk1)) (Int.natCast_nonneg _) (lt_of_get hxk1) rfl) (fun a hf => ?_)
    refine S.val hf hs (v := .agg #[.int .i64 xk1.X, .int .i64 xk1.Y]) rfl rfl rfl (V.loadEl (off := 0) (Ag.args _ _ _) (hv_l.flat hxk1) rfl rfl rfl Try.isAgg34 Try.sizeOf34 rfl rfl) (fun a hf => ?_)
    refine S.alloc hf hs rfl rfl rfl [.int .i64 0, .int .i64 0] rfl Try.zeroValue34 rfl (fun g2 a w hf hs => ?_)
    refine S.storeBox 0 hf hs rfl rfl [.int .i64 xk1.X, .int .i64 xk1.Y] [.int .i64 xk1.X, .int .i64 xk1.Y] rfl rfl rfl rfl rfl Try.sizeOf34 rfl rfl rfl rfl (fun a w hf hs => ?_)
    refine R.nil ?_
    refine X.then_ ?_
    refine wp_seq ?_
    refine R.list ?_
    refine S.val hf hs (v := .int .i64 n2) rfl rfl rfl (V.pure rfl) (fun a hf => ?_)
    refine S.val hf hs (v := .agg #[.int .i64 b2.X, .int .i64 b2.Y]) rfl rfl rfl (V.loadBox 1 rfl rfl rfl Try.isAgg34 Try.sizeOf34 rfl rfl) (fun a hf => ?_)
    refine S.val hf hs (v := .agg #[.int .i64 xk1.X, .int .i64 xk1.Y]) rfl rfl rfl (V.loadBox 0 rfl rfl rfl Try.isAgg34 Try.sizeOf34 rfl rfl) (fun a hf => ?_)
    refine S.callv hf rfl rfl rfl (call_fn (vs := [.agg #[.int .i64 b2.X, .int .i64 b2.Y], .agg #[.int .i64 xk1.X, .int .i64 xk1.Y]]) rfl rfl rfl Try.call42) (C_drill_far b2 xk1 _ ) (fun a w hf hs' => ?_)
    replace hs := hs.call hs'; clear hs'
    refine S.val hf hs (v := .int .i64 (w64 (n2 + (far b2 xk1)))) rfl rfl rfl (V.pure rfl) (fun a hf => ?_)
    refine S.val hf hs (v := .int .i64 (w64 (n2 + (far b2 xk1)))) rfl rfl rfl (V.pure rfl) (fun a hf => ?_)
    refine R.nil ?_
    refine X.then_ ?_
    refine R.list ?_
    refine S.val hf hs (v := .agg #[.int .i64 xk1.X, .int .i64 xk1.Y]) rfl rfl rfl (V.loadBox 0 rfl rfl rfl Try.isAgg34 Try.sizeOf34 rfl rfl) (fun a hf => ?_)
    refine S.storeBox 1 hf hs rfl rfl [.int .i64 xk1.X, .int .i64 xk1.Y] [.int .i64 xk1.X, .int .i64 xk1.Y] rfl rfl rfl rfl rfl Try.sizeOf34 rfl rfl rfl rfl (fun a w hf hs => ?_)
    refine R.nil ?_
    refine X.blk ?_
    refine X.then_ ?_
    refine R.list ?_
    refine S.val hf hs (v := .int .i64 ((k1 + 1 : Nat) : Int)) rfl rfl rfl (V.incr rfl rfl rfl hltk1 hlenk1) (fun a hf => ?_)
    refine S.val hf hs (v := .int .i64 ((k1 + 1 : Nat) : Int)) rfl rfl rfl (V.pure rfl) (fun a hf => ?_)
    refine R.nil ?_
    refine X.then_ ?_
    exact ⟨xk1, llk1, rfl, k1 + 1, xk1, (w64 (n2 + (far b2 xk1))), range_drop hlk1, range_len hkk1, (by rw [hnext1] at h; exact h), (((((hf.nil.cons (hf.get 9 _ rfl)).cons (hf.get 8 _ rfl)).cons (hf.get 5 _ rfl)).cons (hf.get 3 _ rfl)).cons (hf.get 10 _ rfl)), hs.drop⟩

set_option linter.unusedVariables false
def M_drill_Way (l : (List Point)) (from_ : Point) (Q : Int → Int → Prop) : Prop :=
  M_drill_checkPoints l from_ 2000 fun y1 => cnd (y1 != 0) (Q 0 y1) (M_drill_way l from_ fun y2 => Q y2 0)
set_option maxHeartbeats 1000000 in
theorem R_drill_Way (l : (List Point)) (from_ : Point) (w0 : World) (lA : Option Addr) (lC : Nat) (hv_l : View w0 (old w0 none_) lA lC l) (Q : Int → Int → Prop) (h : M_drill_Way l from_ Q) :
    Ret Try.prog 20 #[.slice lA l.length lC, .agg #[.int .i64 from_.X, .int .i64 from_.Y]] w0 fun v w' => ∃ (r0 : Int) (r1 : Int), v = .tuple #[.int .i64 r0, .int .i64 r1] ∧ Q r0 r1 ∧ Sat w0 none_ [] w' := by
  refine fn_enter Try.func20 rfl Try.ntmps20 rfl (fs := [(0, .slice lA l.length lC), (1, .agg #[.int .i64 from_.X, .int .i64 from_.Y])]) rfl (fun a hf => ?_)
  have hs := Sat.start w0 none_
  unfold M_drill_Way at h
  refine wp_seq ?_
  refine R.list ?_
  refine S.box hf hs rfl rfl rfl [.int .i64 from_.X, .int .i64 from_.Y] rfl rfl rfl (fun g1 a w hf hs => ?_)
  refine S.val hf hs (v := .int .i64 0) rfl rfl rfl (V.pure rfl) (fun a hf => ?_)
  refine S.val hf hs (v := .int .i64 0) rfl rfl rfl (V.pure rfl) (fun a hf => ?_)
  refine R.nil ?_
  refine X.then_ ?_
  refine wp_seq ?_
  refine wp_seq ?_
  refine R.list ?_
  refine S.val hf hs (v := .slice lA l.length lC) rfl rfl rfl (V.pure rfl) (fun a hf => ?_)
  refine S.val hf hs (v := .agg #[.int .i64 from_.X, .int .i64 from_.Y]) rfl rfl rfl (V.loadBox 0 rfl rfl rfl Try.isAgg34 Try.sizeOf34 rfl rfl) (fun a hf => ?_)
  refine S.call hf rfl rfl rfl (call_fn (vs := [.slice lA l.length lC, .agg #[.int .i64 from_.X, .int .i64 from_.Y], .int .i64 2000]) rfl rfl rfl Try.call25) (R_drill_checkPoints l from_ 2000 _ lA lC ((Ag.args _ _ _).view hv_l hs) _ h) (fun v a w' hf hr => ?_)
  obtain ⟨y1, rfl, h2, hs2⟩ := hr
  replace h := h2; replace hs := hs.call hs2; clear h2 hs2
  refine S.val hf hs (v := .int .i64 y1) rfl rfl rfl (V.pure rfl) (fun a hf => ?_)
  refine R.nil ?_
  refine X.then_ ?_
  refine wp_seq ?_
  refine R.list ?_
  refine S.val hf hs (v := .int .i64 y1) rfl rfl rfl (V.pure rfl) (fun a hf => ?_)
  refine S.val hf hs (v := .bool (y1 != 0)) rfl rfl rfl (V.pure rfl) (fun a hf => ?_)
  refine R.nil ?_
  refine X.then_ ?_
  refine C.cond hf (b := y1 != 0) rfl (fun hc => ?_) (fun hc => ?_)
  · replace h := h.1 hc
    refine wp_seq ?_
    refine R.list ?_
    refine S.val hf hs (v := .int .i64 y1) rfl rfl rfl (V.pure rfl) (fun a hf => ?_)
    refine S.val hf hs (v := .int .i64 0) rfl rfl rfl (V.pure rfl) (fun a hf => ?_)
    refine S.val hf hs (v := .int .i64 y1) rfl rfl rfl (V.pure rfl) (fun a hf => ?_)
    refine R.nil ?_
    refine X.then_ ?_
    refine wp_ret ?_
    refine X.then_ret ?_
    exact L.ret hf (run_results2 Try.results20 (ResIs.tmp hf rfl) (ResIs.tmp hf rfl)) ⟨0, y1, rfl, h, hs.nil⟩
  · replace h := h.2 hc
    refine wp_skip ?_
    refine X.then_ ?_
    refine wp_seq ?_
    refine R.list ?_
    refine S.val hf hs (v := .slice lA l.length lC) rfl rfl rfl (V.pure rfl) (fun a hf => ?_)
    refine S.val hf hs (v := .agg #[.int .i64 from_.X, .int .i64 from_.Y]) rfl rfl rfl (V.loadBox 0 rfl rfl rfl Try.isAgg34 Try.sizeOf34 rfl rfl) (fun a hf => ?_)
    refine S.call hf rfl rfl rfl (call_fn (vs := [.slice lA l.length lC, .agg #[.int .i64 from_.X, .int .i64 from_.Y]]) rfl rfl rfl Try.call26) (R_drill_way l from_ _ lA lC ((Ag.args _ _ _).view hv_l hs) _ h) (fun v a w' hf hr => ?_)
    obtain ⟨y2, rfl, h2, hs2⟩ := hr
    replace h := h2; replace hs := hs.call hs2; clear h2 hs2
    refine S.val hf hs (v := .int .i64 y2) rfl rfl rfl (V.pure rfl) (fun a hf => ?_)
    refine S.val hf hs (v := .int .i64 0) rfl rfl rfl (V.pure rfl) (fun a hf => ?_)
    refine R.nil ?_
    refine X.then_ ?_
    refine wp_ret ?_
    exact L.ret hf (run_results2 Try.results20 (ResIs.tmp hf rfl) (ResIs.tmp hf rfl)) ⟨y2, 0, rfl, h, hs.nil⟩

set_option linter.unusedVariables false
def M_equal_int_L1 (s2 : (List Int)) (Q : Bool → Prop) (k1 : Nat) (xk1 : Int)  (next1 : Prop) : Prop :=
  idx s2 (k1 : Int) fun x1 => cnd (xk1 != x1) (Q false) (next1)
def M_equal_int (s1 : (List Int)) (s2 : (List Int)) (Q : Bool → Prop) : Prop :=
  cnd ((s1.length : Int) != (s2.length : Int)) (Q false) (forIn' (fun k x (s : Unit) next => M_equal_int_L1 s2 Q k x (next ())) (fun (s : Unit) => Q true) s1 0 ())
set_option maxHeartbeats 1000000 in
theorem R_equal_int (s1 : (List Int)) (s2 : (List Int)) (w0 : World) (s1A : Option Addr) (s1C : Nat) (hv_s1 : View w0 (old w0 none_) s1A s1C s1) (s2A : Option Addr) (s2C : Nat) (hv_s2 : View w0 (old w0 none_) s2A s2C s2) (Q : Bool → Prop) (h : M_equal_int s1 s2 Q) :
    Ret Try.prog 10 #[.slice s1A s1.length s1C, .slice s2A s2.length s2C] w0 fun v w' => ∃ (r0 : Bool), v = .bool r0 ∧ Q r0 ∧ Sat w0 none_ [] w' := by
  refine fn_enter Try.func10 rfl Try.ntmps10 rfl (fs := [(0, .slice s1A s1.length s1C), (1, .slice s2A s2.length s2C)]) rfl (fun a hf => ?_)
  have hs := Sat.start w0 none_
  unfold M_equal_int at h
  refine wp_seq ?_
  refine R.list ?_
  refine S.val hf hs (v := .bool false) rfl rfl rfl (V.pure rfl) (fun a hf => ?_)
  refine R.nil ?_
  refine X.then_ ?_
  refine wp_seq ?_
  refine wp_seq ?_
  refine R.list ?_
  refine S.val hf hs (v := .slice s1A s1.length s1C) rfl rfl rfl (V.pure rfl) (fun a hf => ?_)
  refine S.val hf hs (v := .int .i64 (s1.length : Int)) rfl rfl rfl (V.len rfl rfl Try.runUnderlying24) (fun a hf => ?_)
  refine S.val hf hs (v := .slice s2A s2.length s2C) rfl rfl rfl (V.pure rfl) (fun a hf => ?_)
  refine S.val hf hs (v := .int .i64 (s2.length : Int)) rfl rfl rfl (V.len rfl rfl Try.runUnderlying24) (fun a hf => ?_)
  refine S.val hf hs (v := .bool ((s1.length : Int) != (s2.length : Int))) rfl rfl rfl (V.pure rfl) (fun a hf => ?_)
  refine R.nil ?_
  refine X.then_ ?_
  refine C.cond hf (b := (s1.length : Int) != (s2.length : Int)) rfl (fun hc => ?_) (fun hc => ?_)
  · replace h := h.1 hc
    refine wp_seq ?_
    refine R.list ?_
    refine S.val hf hs (v := .bool false) rfl rfl rfl (V.pure rfl) (fun a hf => ?_)
    refine R.nil ?_
    refine X.then_ ?_
    refine wp_ret ?_
    refine X.then_ret ?_
    exact L.ret hf (run_results1 Try.results10 (ResIs.tmp hf rfl)) ⟨false, rfl, h, hs.nil⟩
  · replace h := h.2 hc
    refine wp_skip ?_
    refine X.then_ ?_
    refine wp_seq ?_
    refine wp_seq ?_
    refine R.list ?_
    refine S.val hf hs (v := .slice s1A s1.length s1C) rfl rfl rfl (V.pure rfl) (fun a hf => ?_)
    refine S.val hf hs (v := .int .i64 (s1.length : Int)) rfl rfl rfl (V.len rfl rfl Try.runUnderlying24) (fun a hf => ?_)
    refine S.val hf hs (v := .int .i64 0) rfl rfl rfl (V.pure rfl) (fun a hf => ?_)
    refine R.nil ?_
    refine X.then_ ?_
    refine wp_block ?_
    have hlenk1 := hv_s1.len64
    refine C.range (fun (ll : List Int) a w => ∃ (k1 : Nat) , s1.drop k1 = ll ∧ k1 + ll.length = s1.length ∧ forIn' (fun k x (s : Unit) next => M_equal_int_L1 s2 Q k x (next ())) (fun (s : Unit) => Q true) ll k1 () ∧ FrOk 26 [(13, .int .i64 (k1 : Int)), (0, .slice s1A s1.length s1C), (1, .slice s2A s2.length s2C), (12, .int .i64 (s1.length : Int))] a ∧ Sat w0 none_ [] w) s1 ⟨0, rfl, Nat.zero_add _, h, ((((hf.nil.cons (hf.get 12 _ rfl)).cons (hf.get 1 _ rfl)).cons (hf.get 0 _ rfl)).cons (hf.get 13 _ rfl)), hs⟩ ?_
    clear h hf hs
    rintro llk1 a w ⟨k1, hlk1, hkk1, h, hf, hs⟩
    cases llk1 with
    | nil =>
      have hc := range_done hkk1
      replace h : Q true := h
      refine wp_seq ?_
      refine R.list ?_
      refine S.val hf hs (v := .bool false) rfl rfl rfl (V.cmp false rfl rfl rfl rfl hc) (fun a hf => ?_)
      refine R.nil ?_
      refine X.then_ ?_
      refine wp_seq ?_
      refine C.no hf rfl ?_
      refine wp_exit ?_
      refine X.then_exit ?_
      refine X.then_exit ?_
      refine X.blk_exit ?_
      refine X.then_ ?_
      refine wp_seq ?_
      refine R.list ?_
      refine S.val hf hs (v := .bool true) rfl rfl rfl (V.pure rfl) (fun a hf => ?_)
      refine R.nil ?_
      refine X.then_ ?_
      refine wp_ret ?_
      exact L.ret hf (run_results1 Try.results10 (ResIs.tmp hf rfl)) ⟨true, rfl, h, hs.nil⟩
    | cons xk1 llk1 =>
      have hltk1 := range_lt hkk1; have hc := range_go hkk1; have hxk1 := range_get hlk1
      obtain ⟨next1, hnext1⟩ : ∃ X : Prop, X = (forIn' (fun k x (s : Unit) next => M_equal_int_L1 s2 Q k x (next ())) (fun (s : Unit) => Q true) llk1 (k1 + 1) ()) := ⟨_, rfl⟩
      replace h : M_equal_int_L1 s2 Q k1 xk1  next1 := by rw [hnext1]; exact h
      unfold M_equal_int_L1 at h
      refine wp_seq ?_
      refine R.list ?_
      refine S.val hf hs (v := .bool true) rfl rfl rfl (V.cmp true rfl rfl rfl rfl hc) (fun a hf => ?_)
      refine R.nil ?_
      refine X.then_ ?_
      refine wp_seq ?_
      refine C.yes hf rfl ?_
      refine wp_skip ?_
      refine X.then_ ?_
      refine wp_seq ?_
      refine wp_block ?_
      refine wp_seq ?_
      refine R.list ?_
      refine S.val hf hs (v := .int .i64 (k1 : Int)) rfl rfl rfl (V.pure rfl) (fun a hf => ?_)
      refine S.val hf hs (v := .int .i64 (k1 : Int)) rfl rfl rfl (V.pure rfl) (fun a hf => ?_)
      refine R.nil ?_
      refine X.then_ ?_
      refine wp_seq ?_
      refine R.draw mo (by kernel_rfl) hs ?_
      refine D.val hf (v := .slice s1A s1.length s1C) rfl rfl rfl (V.pure rfl) (fun a hf => ?_)
      refine D.val hf (v := .int .i64 (k1 : Int)) rfl rfl rfl (V.pure rfl) (fun a hf => ?_)
      refine D.val hf (v := elemPtr s1A (k1 * 1)) rfl rfl rfl (V.index rfl rfl rfl Try.runUnderlying24 Try.sizeOf3 (hv_s1.some_ (lt_of_get hxk1)) (Int.natCast_nonneg _) (lt_of_get hxk1) rfl) (fun a hf => ?_)
      refine D.val hf (v := .int .i64 xk1) rfl rfl rfl (V.loadEl (off := 0) (Ag.args _ _ _) (hv_s1.flat hxk1) rfl rfl rfl Try.isAgg3 Try.sizeOf3 rfl rfl) (fun a hf => ?_)
      refine D.val hf (v := .slice s2A s2.length s2C) rfl rfl rfl (V.pure rfl) (fun a hf => ?_)
      refine D.val hf (v := .int .i64 (k1 : Int)) rfl rfl rfl (V.pure rfl) (fun a hf => ?_)
      obtain ⟨h0x1, x1, hx1, h⟩ := h
      refine D.val hf (v := elemPtr s2A (k1 * 1)) rfl rfl rfl (V.index rfl rfl rfl Try.runUnderlying24 Try.sizeOf3 (hv_s2.some_ (lt_of_get hx1)) (Int.natCast_nonneg _) (lt_of_get hx1) rfl) (fun a hf => ?_)
      refine D.val hf (v := .int .i64 x1) rfl rfl rfl (V.loadEl (off := 0) (Ag.args _ _ _) (hv_s2.flat hx1) rfl rfl rfl Try.isAgg3 Try.sizeOf3 rfl rfl) (fun a hf => ?_)
      refine D.val hf (v := .bool (xk1 != x1)) rfl rfl rfl (V.pure rfl) (fun a hf => ?_)
      refine D.done (fun w hs => ?_)
      refine X.then_ ?_
      refine C.cond hf (b := xk1 != x1) rfl (fun hc => ?_) (fun hc => ?_)
      · replace h := h.1 hc
        refine wp_seq ?_
        refine R.list ?_
        refine S.val hf hs (v := .bool false) rfl rfl rfl (V.pure rfl) (fun a hf => ?_)
        refine R.nil ?_
        refine X.then_ ?_
        refine wp_ret ?_
        refine X.blk_ret ?_
        refine X.then_ret ?_
        refine X.then_ret ?_
        refine X.blk_ret ?_
        refine X.then_ret ?_
        exact L.ret hf (run_results1 Try.results10 (ResIs.tmp hf rfl)) ⟨false, rfl, h, hs.nil⟩
      · replace h := h.2 hc
        refine wp_skip ?_
        refine X.blk ?_
        refine X.then_ ?_
        refine R.list ?_
        refine S.val hf hs (v := .int .i64 ((k1 + 1 : Nat) : Int)) rfl rfl rfl (V.incr rfl rfl rfl hltk1 hlenk1) (fun a hf => ?_)
        refine S.val hf hs (v := .int .i64 ((k1 + 1 : Nat) : Int)) rfl rfl rfl (V.pure rfl) (fun a hf => ?_)
        refine R.nil ?_
        refine X.then_ ?_
        exact ⟨xk1, llk1, rfl, k1 + 1, range_drop hlk1, range_len hkk1, (by rw [hnext1] at h; exact h), ((((hf.nil.cons (hf.get 12 _ rfl)).cons (hf.get 1 _ rfl)).cons (hf.get 0 _ rfl)).cons (hf.get 13 _ rfl)), hs⟩

set_option linter.unusedVariables false
def M_awake  (Q : Bool → Prop) : Prop :=
  M_drill_Way ([(⟨5, 0⟩ : Point), (⟨1, 0⟩ : Point), (⟨2, 3⟩ : Point)] : List Point) (⟨0, 0⟩ : Point) fun y1 y2 => cnd (y2 == 0) (Q (y1 == 12)) (Q false)
set_option maxHeartbeats 1000000 in
theorem R_awake  (w0 : World)  (Q : Bool → Prop) (h : M_awake  Q) :
    Ret Try.prog 11 #[] w0 fun v w' => ∃ (r0 : Bool), v = .bool r0 ∧ Q r0 ∧ Sat w0 none_ [] w' := by
  refine fn_enter Try.func11 rfl Try.ntmps11 rfl (fs := []) rfl (fun a hf => ?_)
  have hs := Sat.start w0 none_
  unfold M_awake at h
  refine wp_seq ?_
  refine R.list ?_
  refine S.val hf hs (v := .bool false) rfl rfl rfl (V.pure rfl) (fun a hf => ?_)
  refine R.nil ?_
  refine X.then_ ?_
  refine wp_seq ?_
  refine R.list ?_
  refine S.val hf hs (v := .agg #[.int .i64 5, .int .i64 0]) rfl rfl rfl (V.build (places := #[(0, 1), (1, 1)]) rfl Try.zeroValue34 Try.runUnderlying34 (by intro w; simp [Try.sizeOf3]) rfl rfl) (fun a hf => ?_)
  refine S.val hf hs (v := .agg #[.int .i64 1, .int .i64 0]) rfl rfl rfl (V.build (places := #[(0, 1), (1, 1)]) rfl Try.zeroValue34 Try.runUnderlying34 (by intro w; simp [Try.sizeOf3]) rfl rfl) (fun a hf => ?_)
  refine S.val hf hs (v := .agg #[.int .i64 2, .int .i64 3]) rfl rfl rfl (V.build (places := #[(0, 1), (1, 1)]) rfl Try.zeroValue34 Try.runUnderlying34 (by intro w; simp [Try.sizeOf3]) rfl rfl) (fun a hf => ?_)
  refine S.buildSlice hf hs rfl rfl rfl (α := Point) [(⟨5, 0⟩ : Point), (⟨1, 0⟩ : Point), (⟨2, 3⟩ : Point)] rfl rfl Try.runUnderlying46 Try.sizeOf34 Try.zeroValue34 (by kernel_rfl) rfl (by decide) (by decide) (fun A1 a w hf hs => ?_)
  refine S.val hf hs (v := .agg #[.int .i64 0, .int .i64 0]) rfl rfl rfl (V.build (places := #[(0, 1), (1, 1)]) rfl Try.zeroValue34 Try.runUnderlying34 (by intro w; simp [Try.sizeOf3]) rfl rfl) (fun a hf => ?_)
  refine S.call hf rfl rfl rfl (call_fn (vs := [.slice A1 ([(⟨5, 0⟩ : Point), (⟨1, 0⟩ : Point), (⟨2, 3⟩ : Point)] : List Point).length 3, .agg #[.int .i64 0, .int .i64 0]]) rfl rfl rfl Try.call20) (R_drill_Way ([(⟨5, 0⟩ : Point), (⟨1, 0⟩ : Point), (⟨2, 3⟩ : Point)] : List Point) (⟨0, 0⟩ : Point) _ A1 3 (hs.ownView 0 rfl) _ h) (fun v a w' hf hr => ?_)
  obtain ⟨y1, y2, rfl, h2, hs2⟩ := hr
  replace h := h2; replace hs := hs.call hs2; clear h2 hs2
  refine S.val hf hs (v := .tuple #[.int .i64 y1, .int .i64 y2]) rfl rfl rfl (V.pure rfl) (fun a hf => ?_)
  refine S.val hf hs (v := .int .i64 y1) rfl rfl rfl (V.pure rfl) (fun a hf => ?_)
  refine S.val hf hs (v := .int .i64 y2) rfl rfl rfl (V.pure rfl) (fun a hf => ?_)
  refine S.val hf hs (v := .int .i64 y1) rfl rfl rfl (V.pure rfl) (fun a hf => ?_)
  refine S.val hf hs (v := .int .i64 y2) rfl rfl rfl (V.pure rfl) (fun a hf => ?_)
  refine R.nil ?_
  refine X.then_ ?_
  refine wp_seq ?_
  refine R.list ?_
  refine S.val hf hs (v := .int .i64 y2) rfl rfl rfl (V.pure rfl) (fun a hf => ?_)
  refine S.val hf hs (v := .bool (y2 == 0)) rfl rfl rfl (V.pure rfl) (fun a hf => ?_)
  refine S.split hf hs (b := y2 == 0) rfl rfl rfl (V.pure rfl) (fun hc a hf => ?_) (fun hc a hf => ?_)
  · replace h := h.1 hc
    refine S.val hf hs (v := .int .i64 y1) rfl rfl rfl (V.pure rfl) (fun a hf => ?_)
    refine S.val hf hs (v := .bool (y1 == 12)) rfl rfl rfl (V.pure rfl) (fun a hf => ?_)
    refine S.val hf hs (v := .bool (y1 == 12)) rfl rfl rfl (V.pure rfl) (fun a hf => ?_)
    refine S.val hf hs (v := .bool (y1 == 12)) rfl rfl rfl (V.pure rfl) (fun a hf => ?_)
    refine R.nil ?_
    refine X.then_ ?_
    refine wp_ret ?_
    exact L.ret hf (run_results1 Try.results11 (ResIs.tmp hf rfl)) ⟨(y1 == 12), rfl, h, hs.nil⟩
  · replace h := h.2 hc
    refine S.skip hf rfl rfl rfl (fun a hf => ?_)
    refine S.skip hf rfl rfl rfl (fun a hf => ?_)
    refine S.val hf hs (v := .bool false) rfl rfl rfl (V.pure rfl) (fun a hf => ?_)
    refine S.val hf hs (v := .bool false) rfl rfl rfl (V.pure rfl) (fun a hf => ?_)
    refine R.nil ?_
    refine X.then_ ?_
    refine wp_ret ?_
    exact L.ret hf (run_results1 Try.results11 (ResIs.tmp hf rfl)) ⟨false, rfl, h, hs.nil⟩

set_option linter.unusedVariables false
def M_drill_CheckHoles_k2 (Q : Int → Prop) (next1 : Prop) (c1 : Bool) : Prop :=
  cnd c1 (Q 1) (next1)
def M_drill_CheckHoles_L1 (Q : Int → Prop) (k1 : Nat) (xk1 : Hole)  (next1 : Prop) : Prop :=
  cnd (!(isPoint xk1.At)) (M_drill_CheckHoles_k2 Q next1 true) (cnd (!(within xk1.Size 1 10000)) (M_drill_CheckHoles_k2 Q next1 true) (M_drill_CheckHoles_k2 Q next1 (!(within xk1.Depth 1 100000))))
def M_drill_CheckHoles (l : (List Hole)) (Q : Int → Prop) : Prop :=
  cnd (decide ((l.length : Int) > 2000)) (Q 2) (forIn' (fun k x (s : Unit) next => M_drill_CheckHoles_L1 Q k x (next ())) (fun (s : Unit) => Q 0) l 0 ())
set_option maxHeartbeats 1000000 in
theorem R_drill_CheckHoles (l : (List Hole)) (w0 : World) (lA : Option Addr) (lC : Nat) (hv_l : View w0 (old w0 none_) lA lC l) (Q : Int → Prop) (h : M_drill_CheckHoles l Q) :
    Ret Try.prog 6 #[.slice lA l.length lC] w0 fun v w' => ∃ (r0 : Int), v = .int .i64 r0 ∧ Q r0 ∧ Sat w0 none_ [] w' := by
  refine fn_enter Try.func6 rfl Try.ntmps6 rfl (fs := [(0, .slice lA l.length lC)]) rfl (fun a hf => ?_)
  have hs := Sat.start w0 none_
  unfold M_drill_CheckHoles at h
  refine wp_seq ?_
  refine R.list ?_
  refine S.val hf hs (v := .int .i64 0) rfl rfl rfl (V.pure rfl) (fun a hf => ?_)
  refine R.nil ?_
  refine X.then_ ?_
  refine wp_seq ?_
  refine wp_seq ?_
  refine R.list ?_
  refine S.val hf hs (v := .slice lA l.length lC) rfl rfl rfl (V.pure rfl) (fun a hf => ?_)
  refine S.val hf hs (v := .int .i64 (l.length : Int)) rfl rfl rfl (V.len rfl rfl Try.runUnderlying22) (fun a hf => ?_)
  refine S.val hf hs (v := .bool (decide ((l.length : Int) > 2000))) rfl rfl rfl (V.pure rfl) (fun a hf => ?_)
  refine R.nil ?_
  refine X.then_ ?_
  refine C.cond hf (b := decide ((l.length : Int) > 2000)) rfl (fun hc => ?_) (fun hc => ?_)
  · replace h := h.1 hc
    refine wp_seq ?_
    refine R.list ?_
    refine S.val hf hs (v := .int .i64 2) rfl rfl rfl (V.pure rfl) (fun a hf => ?_)
    refine R.nil ?_
    refine X.then_ ?_
    refine wp_ret ?_
    refine X.then_ret ?_
    exact L.ret hf (run_results1 Try.results6 (ResIs.tmp hf rfl)) ⟨2, rfl, h, hs.nil⟩
  · replace h := h.2 hc
    refine wp_skip ?_
    refine X.then_ ?_
    refine wp_seq ?_
    refine wp_seq ?_
    refine R.list ?_
    refine S.val hf hs (v := .slice lA l.length lC) rfl rfl rfl (V.pure rfl) (fun a hf => ?_)
    refine S.val hf hs (v := .int .i64 (l.length : Int)) rfl rfl rfl (V.len rfl rfl Try.runUnderlying22) (fun a hf => ?_)
    refine S.val hf hs (v := .int .i64 0) rfl rfl rfl (V.pure rfl) (fun a hf => ?_)
    refine R.nil ?_
    refine X.then_ ?_
    refine wp_block ?_
    have hlenk1 := hv_l.len64
    refine C.range (fun (ll : List Hole) a w => ∃ (k1 : Nat) , l.drop k1 = ll ∧ k1 + ll.length = l.length ∧ forIn' (fun k x (s : Unit) next => M_drill_CheckHoles_L1 Q k x (next ())) (fun (s : Unit) => Q 0) ll k1 () ∧ FrOk 31 [(10, .int .i64 (k1 : Int)), (8, .slice lA l.length lC), (9, .int .i64 (l.length : Int))] a ∧ Sat w0 none_ [] w) l ⟨0, rfl, Nat.zero_add _, h, (((hf.nil.cons (hf.get 9 _ rfl)).cons (hf.get 8 _ rfl)).cons (hf.get 10 _ rfl)), hs⟩ ?_
    clear h hf hs
    rintro llk1 a w ⟨k1, hlk1, hkk1, h, hf, hs⟩
    cases llk1 with
    | nil =>
      have hc := range_done hkk1
      replace h : Q 0 := h
      refine wp_seq ?_
      refine R.list ?_
      refine S.val hf hs (v := .bool false) rfl rfl rfl (V.cmp false rfl rfl rfl rfl hc) (fun a hf => ?_)
      refine R.nil ?_
      refine X.then_ ?_
      refine wp_seq ?_
      refine C.no hf rfl ?_
      refine wp_exit ?_
      refine X.then_exit ?_
      refine X.then_exit ?_
      refine X.blk_exit ?_
      refine X.then_ ?_
      refine wp_seq ?_
      refine R.list ?_
      refine S.val hf hs (v := .int .i64 0) rfl rfl rfl (V.pure rfl) (fun a hf => ?_)
      refine R.nil ?_
      refine X.then_ ?_
      refine wp_ret ?_
      exact L.ret hf (run_results1 Try.results6 (ResIs.tmp hf rfl)) ⟨0, rfl, h, hs.nil⟩
    | cons xk1 llk1 =>
      have hltk1 := range_lt hkk1; have hc := range_go hkk1; have hxk1 := range_get hlk1
      obtain ⟨next1, hnext1⟩ : ∃ X : Prop, X = (forIn' (fun k x (s : Unit) next => M_drill_CheckHoles_L1 Q k x (next ())) (fun (s : Unit) => Q 0) llk1 (k1 + 1) ()) := ⟨_, rfl⟩
      replace h : M_drill_CheckHoles_L1 Q k1 xk1  next1 := by rw [hnext1]; exact h
      unfold M_drill_CheckHoles_L1 at h
      refine wp_seq ?_
      refine R.list ?_
      refine S.val hf hs (v := .bool true) rfl rfl rfl (V.cmp true rfl rfl rfl rfl hc) (fun a hf => ?_)
      refine R.nil ?_
      refine X.then_ ?_
      refine wp_seq ?_
      refine C.yes hf rfl ?_
      refine wp_skip ?_
      refine X.then_ ?_
      refine wp_seq ?_
      refine wp_block ?_
      refine wp_seq ?_
      refine R.list ?_
      refine S.val hf hs (v := elemPtr lA (k1 * 5)) rfl rfl rfl (V.index rfl rfl rfl Try.runUnderlying22 Try.sizeOf36 (hv_l.some_ (lt_of_get hxk1)) (Int.natCast_nonneg _) (lt_of_get hxk1) rfl) (fun a hf => ?_)
      refine S.val hf hs (v := .agg #[.int .i64 xk1.At.X, .int .i64 xk1.At.Y, .int .i64 xk1.Size, .int .i64 xk1.Depth, .bool xk1.Plated]) rfl rfl rfl (V.loadEl (off := 0) (Ag.args _ _ _) (hv_l.flat hxk1) rfl rfl rfl Try.isAgg36 Try.sizeOf36 rfl rfl) (fun a hf => ?_)
      refine S.alloc hf hs rfl rfl rfl [.int .i64 0, .int .i64 0, .int .i64 0, .int .i64 0, .bool false] rfl Try.zeroValue36 rfl (fun g1 a w hf hs => ?_)
      refine S.storeBox 0 hf hs rfl rfl [.int .i64 xk1.At.X, .int .i64 xk1.At.Y, .int .i64 xk1.Size, .int .i64 xk1.Depth, .bool xk1.Plated] [.int .i64 xk1.At.X, .int .i64 xk1.At.Y, .int .i64 xk1.Size, .int .i64 xk1.Depth, .bool xk1.Plated] rfl rfl rfl rfl rfl Try.sizeOf36 rfl rfl rfl rfl (fun a w hf hs => ?_)
      refine R.nil ?_
      refine X.then_ ?_
      refine wp_seq ?_
      refine C.cut (J := fun a w => ∃ (c1 : Bool), M_drill_CheckHoles_k2 Q next1 c1 ∧ FrOk 31 [(8, .slice lA l.length lC), (9, .int .i64 (l.length : Int)), (10, .int .i64 (k1 : Int)), (29, .bool c1)] a ∧ Sat w0 none_ [hbox g1 36 [.int .i64 xk1.At.X, .int .i64 xk1.At.Y, .int .i64 xk1.Size, .int .i64 xk1.Depth, .bool xk1.Plated]] w) ?_ ?_
      · rintro a w ⟨c1, h, hf, hs⟩
        unfold M_drill_CheckHoles_k2 at h
        refine C.cond hf (b := c1) rfl (fun hc => ?_) (fun hc => ?_)
        · replace h := h.1 hc
          refine wp_seq ?_
          refine R.list ?_
          refine S.val hf hs (v := .int .i64 1) rfl rfl rfl (V.pure rfl) (fun a hf => ?_)
          refine R.nil ?_
          refine X.then_ ?_
          refine wp_ret ?_
          refine X.blk_ret ?_
          refine X.then_ret ?_
          refine X.then_ret ?_
          refine X.blk_ret ?_
          refine X.then_ret ?_
          exact L.ret hf (run_results1 Try.results6 (ResIs.tmp hf rfl)) ⟨1, rfl, h, hs.nil⟩
        · replace h := h.2 hc
          refine wp_skip ?_
          refine X.blk ?_
          refine X.then_ ?_
          refine R.list ?_
          refine S.val hf hs (v := .int .i64 ((k1 + 1 : Nat) : Int)) rfl rfl rfl (V.incr rfl rfl rfl hltk1 hlenk1) (fun a hf => ?_)
          refine S.val hf hs (v := .int .i64 ((k1 + 1 : Nat) : Int)) rfl rfl rfl (V.pure rfl) (fun a hf => ?_)
          refine R.nil ?_
          refine X.then_ ?_
          exact ⟨xk1, llk1, rfl, k1 + 1, range_drop hlk1, range_len hkk1, (by rw [hnext1] at h; exact h), (((hf.nil.cons (hf.get 9 _ rfl)).cons (hf.get 8 _ rfl)).cons (hf.get 10 _ rfl)), hs.drop⟩
      · skip
        refine R.list ?_
        refine S.val hf hs (v := .pointer (some ⟨g1, 0, none⟩)) rfl rfl rfl (V.fieldBox rfl rfl Try.runUnderlying36 rfl Try.sizeOf34 rfl rfl) (fun a hf => ?_)
        refine S.val hf hs (v := .agg #[.int .i64 xk1.At.X, .int .i64 xk1.At.Y]) rfl rfl rfl (V.loadBox 0 rfl rfl rfl Try.isAgg34 Try.sizeOf34 rfl rfl) (fun a hf => ?_)
        refine S.callv hf rfl rfl rfl (call_fn (vs := [.agg #[.int .i64 xk1.At.X, .int .i64 xk1.At.Y]]) rfl rfl rfl Try.call14) (C_shape_IsPoint xk1.At _ ) (fun a w hf hs' => ?_)
        replace hs := hs.call hs'; clear hs'
        refine S.val hf hs (v := .bool (!(isPoint xk1.At))) rfl rfl rfl (V.pure rfl) (fun a hf => ?_)
        refine S.split hf hs (b := !(isPoint xk1.At)) rfl rfl rfl (V.pure rfl) (fun hc a hf => ?_) (fun hc a hf => ?_)
        · replace h := h.1 hc
          refine S.skip hf rfl rfl rfl (fun a hf => ?_)
          refine S.skip hf rfl rfl rfl (fun a hf => ?_)
          refine S.skip hf rfl rfl rfl (fun a hf => ?_)
          refine S.skip hf rfl rfl rfl (fun a hf => ?_)
          refine S.val hf hs (v := .bool true) rfl rfl rfl (V.pure rfl) (fun a hf => ?_)
          refine S.val hf hs (v := .bool true) rfl rfl rfl (V.pure rfl) (fun a hf => ?_)
          refine S.skip hf rfl rfl rfl (fun a hf => ?_)
          refine S.skip hf rfl rfl rfl (fun a hf => ?_)
          refine S.skip hf rfl rfl rfl (fun a hf => ?_)
          refine S.skip hf rfl rfl rfl (fun a hf => ?_)
          refine S.val hf hs (v := .bool true) rfl rfl rfl (V.pure rfl) (fun a hf => ?_)
          refine R.nil ?_
          refine X.then_ ?_
          exact ⟨true, h, ((((hf.nil.cons (hf.get 29 _ rfl)).cons (hf.get 10 _ rfl)).cons (hf.get 9 _ rfl)).cons (hf.get 8 _ rfl)), hs⟩
        · replace h := h.2 hc
          refine S.val hf hs (v := .pointer (some ⟨g1, 2, none⟩)) rfl rfl rfl (V.fieldBox rfl rfl Try.runUnderlying36 rfl Try.sizeOf3 rfl rfl) (fun a hf => ?_)
          refine S.val hf hs (v := .int .i64 xk1.Size) rfl rfl rfl (V.loadBox 0 rfl rfl rfl Try.isAgg3 Try.sizeOf3 rfl rfl) (fun a hf => ?_)
          refine S.callv hf rfl rfl rfl (call_fn (vs := [.int .i64 xk1.Size, .int .i64 1, .int .i64 10000]) rfl rfl rfl Try.call15) (C_drill_within xk1.Size 1 10000 _ ) (fun a w hf hs' => ?_)
          replace hs := hs.call hs'; clear hs'
          refine S.val hf hs (v := .bool (!(within xk1.Size 1 10000))) rfl rfl rfl (V.pure rfl) (fun a hf => ?_)
          refine S.val hf hs (v := .bool (!(within xk1.Size 1 10000))) rfl rfl rfl (V.pure rfl) (fun a hf => ?_)
          refine S.split hf hs (b := !(within xk1.Size 1 10000)) rfl rfl rfl (V.pure rfl) (fun hc a hf => ?_) (fun hc a hf => ?_)
          · replace h := h.1 hc
            refine S.skip hf rfl rfl rfl (fun a hf => ?_)
            refine S.skip hf rfl rfl rfl (fun a hf => ?_)
            refine S.skip hf rfl rfl rfl (fun a hf => ?_)
            refine S.skip hf rfl rfl rfl (fun a hf => ?_)
            refine S.val hf hs (v := .bool true) rfl rfl rfl (V.pure rfl) (fun a hf => ?_)
            refine R.nil ?_
            refine X.then_ ?_
            exact ⟨true, h, ((((hf.nil.cons (hf.get 29 _ rfl)).cons (hf.get 10 _ rfl)).cons (hf.get 9 _ rfl)).cons (hf.get 8 _ rfl)), hs⟩
          · replace h := h.2 hc
            refine S.val hf hs (v := .pointer (some ⟨g1, 3, none⟩)) rfl rfl rfl (V.fieldBox rfl rfl Try.runUnderlying36 rfl Try.sizeOf3 rfl rfl) (fun a hf => ?_)
            refine S.val hf hs (v := .int .i64 xk1.Depth) rfl rfl rfl (V.loadBox 0 rfl rfl rfl Try.isAgg3 Try.sizeOf3 rfl rfl) (fun a hf => ?_)
            refine S.callv hf rfl rfl rfl (call_fn (vs := [.int .i64 xk1.Depth, .int .i64 1, .int .i64 100000]) rfl rfl rfl Try.call15) (C_drill_within xk1.Depth 1 100000 _ ) (fun a w hf hs' => ?_)
            replace hs := hs.call hs'; clear hs'
            refine S.val hf hs (v := .bool (!(within xk1.Depth 1 100000))) rfl rfl rfl (V.pure rfl) (fun a hf => ?_)
            refine S.val hf hs (v := .bool (!(within xk1.Depth 1 100000))) rfl rfl rfl (V.pure rfl) (fun a hf => ?_)
            refine R.nil ?_
            refine X.then_ ?_
            exact ⟨(!(within xk1.Depth 1 100000)), h, ((((hf.nil.cons (hf.get 29 _ rfl)).cons (hf.get 10 _ rfl)).cons (hf.get 9 _ rfl)).cons (hf.get 8 _ rfl)), hs⟩

set_option linter.unusedVariables false
def M_ref8_CheckHoles_k2 (Q : Int → Prop) (next1 : Prop) (c1 : Bool) : Prop :=
  cnd c1 (Q 1) (next1)
def M_ref8_CheckHoles_L1 (Q : Int → Prop) (k1 : Nat) (xk1 : Hole)  (next1 : Prop) : Prop :=
  cnd (!(isPoint xk1.At)) (M_ref8_CheckHoles_k2 Q next1 true) (cnd (!(within xk1.Size 1 10000)) (M_ref8_CheckHoles_k2 Q next1 true) (M_ref8_CheckHoles_k2 Q next1 (!(within xk1.Depth 1 100000))))
def M_ref8_CheckHoles (l : (List Hole)) (Q : Int → Prop) : Prop :=
  cnd (decide ((l.length : Int) > 2000)) (Q 2) (forIn' (fun k x (s : Unit) next => M_ref8_CheckHoles_L1 Q k x (next ())) (fun (s : Unit) => Q 0) l 0 ())
set_option maxHeartbeats 1000000 in
theorem R_ref8_CheckHoles (l : (List Hole)) (w0 : World) (lA : Option Addr) (lC : Nat) (hv_l : View w0 (old w0 none_) lA lC l) (Q : Int → Prop) (h : M_ref8_CheckHoles l Q) :
    Ret Try.prog 7 #[.slice lA l.length lC] w0 fun v w' => ∃ (r0 : Int), v = .int .i64 r0 ∧ Q r0 ∧ Sat w0 none_ [] w' := by
  refine fn_enter Try.func7 rfl Try.ntmps7 rfl (fs := [(0, .slice lA l.length lC)]) rfl (fun a hf => ?_)
  have hs := Sat.start w0 none_
  unfold M_ref8_CheckHoles at h
  refine wp_seq ?_
  refine R.list ?_
  refine S.val hf hs (v := .int .i64 0) rfl rfl rfl (V.pure rfl) (fun a hf => ?_)
  refine R.nil ?_
  refine X.then_ ?_
  refine wp_seq ?_
  refine wp_seq ?_
  refine R.list ?_
  refine S.val hf hs (v := .slice lA l.length lC) rfl rfl rfl (V.pure rfl) (fun a hf => ?_)
  refine S.val hf hs (v := .int .i64 (l.length : Int)) rfl rfl rfl (V.len rfl rfl Try.runUnderlying22) (fun a hf => ?_)
  refine S.val hf hs (v := .bool (decide ((l.length : Int) > 2000))) rfl rfl rfl (V.pure rfl) (fun a hf => ?_)
  refine R.nil ?_
  refine X.then_ ?_
  refine C.cond hf (b := decide ((l.length : Int) > 2000)) rfl (fun hc => ?_) (fun hc => ?_)
  · replace h := h.1 hc
    refine wp_seq ?_
    refine R.list ?_
    refine S.val hf hs (v := .int .i64 2) rfl rfl rfl (V.pure rfl) (fun a hf => ?_)
    refine R.nil ?_
    refine X.then_ ?_
    refine wp_ret ?_
    refine X.then_ret ?_
    exact L.ret hf (run_results1 Try.results7 (ResIs.tmp hf rfl)) ⟨2, rfl, h, hs.nil⟩
  · replace h := h.2 hc
    refine wp_skip ?_
    refine X.then_ ?_
    refine wp_seq ?_
    refine wp_seq ?_
    refine R.list ?_
    refine S.val hf hs (v := .slice lA l.length lC) rfl rfl rfl (V.pure rfl) (fun a hf => ?_)
    refine S.val hf hs (v := .int .i64 (l.length : Int)) rfl rfl rfl (V.len rfl rfl Try.runUnderlying22) (fun a hf => ?_)
    refine S.val hf hs (v := .int .i64 0) rfl rfl rfl (V.pure rfl) (fun a hf => ?_)
    refine R.nil ?_
    refine X.then_ ?_
    refine wp_block ?_
    have hlenk1 := hv_l.len64
    refine C.range (fun (ll : List Hole) a w => ∃ (k1 : Nat) , l.drop k1 = ll ∧ k1 + ll.length = l.length ∧ forIn' (fun k x (s : Unit) next => M_ref8_CheckHoles_L1 Q k x (next ())) (fun (s : Unit) => Q 0) ll k1 () ∧ FrOk 31 [(10, .int .i64 (k1 : Int)), (8, .slice lA l.length lC), (9, .int .i64 (l.length : Int))] a ∧ Sat w0 none_ [] w) l ⟨0, rfl, Nat.zero_add _, h, (((hf.nil.cons (hf.get 9 _ rfl)).cons (hf.get 8 _ rfl)).cons (hf.get 10 _ rfl)), hs⟩ ?_
    clear h hf hs
    rintro llk1 a w ⟨k1, hlk1, hkk1, h, hf, hs⟩
    cases llk1 with
    | nil =>
      have hc := range_done hkk1
      replace h : Q 0 := h
      refine wp_seq ?_
      refine R.list ?_
      refine S.val hf hs (v := .bool false) rfl rfl rfl (V.cmp false rfl rfl rfl rfl hc) (fun a hf => ?_)
      refine R.nil ?_
      refine X.then_ ?_
      refine wp_seq ?_
      refine C.no hf rfl ?_
      refine wp_exit ?_
      refine X.then_exit ?_
      refine X.then_exit ?_
      refine X.blk_exit ?_
      refine X.then_ ?_
      refine wp_seq ?_
      refine R.list ?_
      refine S.val hf hs (v := .int .i64 0) rfl rfl rfl (V.pure rfl) (fun a hf => ?_)
      refine R.nil ?_
      refine X.then_ ?_
      refine wp_ret ?_
      exact L.ret hf (run_results1 Try.results7 (ResIs.tmp hf rfl)) ⟨0, rfl, h, hs.nil⟩
    | cons xk1 llk1 =>
      have hltk1 := range_lt hkk1; have hc := range_go hkk1; have hxk1 := range_get hlk1
      obtain ⟨next1, hnext1⟩ : ∃ X : Prop, X = (forIn' (fun k x (s : Unit) next => M_ref8_CheckHoles_L1 Q k x (next ())) (fun (s : Unit) => Q 0) llk1 (k1 + 1) ()) := ⟨_, rfl⟩
      replace h : M_ref8_CheckHoles_L1 Q k1 xk1  next1 := by rw [hnext1]; exact h
      unfold M_ref8_CheckHoles_L1 at h
      refine wp_seq ?_
      refine R.list ?_
      refine S.val hf hs (v := .bool true) rfl rfl rfl (V.cmp true rfl rfl rfl rfl hc) (fun a hf => ?_)
      refine R.nil ?_
      refine X.then_ ?_
      refine wp_seq ?_
      refine C.yes hf rfl ?_
      refine wp_skip ?_
      refine X.then_ ?_
      refine wp_seq ?_
      refine wp_block ?_
      refine wp_seq ?_
      refine R.list ?_
      refine S.val hf hs (v := elemPtr lA (k1 * 5)) rfl rfl rfl (V.index rfl rfl rfl Try.runUnderlying22 Try.sizeOf36 (hv_l.some_ (lt_of_get hxk1)) (Int.natCast_nonneg _) (lt_of_get hxk1) rfl) (fun a hf => ?_)
      refine S.val hf hs (v := .agg #[.int .i64 xk1.At.X, .int .i64 xk1.At.Y, .int .i64 xk1.Size, .int .i64 xk1.Depth, .bool xk1.Plated]) rfl rfl rfl (V.loadEl (off := 0) (Ag.args _ _ _) (hv_l.flat hxk1) rfl rfl rfl Try.isAgg36 Try.sizeOf36 rfl rfl) (fun a hf => ?_)
      refine S.alloc hf hs rfl rfl rfl [.int .i64 0, .int .i64 0, .int .i64 0, .int .i64 0, .bool false] rfl Try.zeroValue36 rfl (fun g1 a w hf hs => ?_)
      refine S.storeBox 0 hf hs rfl rfl [.int .i64 xk1.At.X, .int .i64 xk1.At.Y, .int .i64 xk1.Size, .int .i64 xk1.Depth, .bool xk1.Plated] [.int .i64 xk1.At.X, .int .i64 xk1.At.Y, .int .i64 xk1.Size, .int .i64 xk1.Depth, .bool xk1.Plated] rfl rfl rfl rfl rfl Try.sizeOf36 rfl rfl rfl rfl (fun a w hf hs => ?_)
      refine R.nil ?_
      refine X.then_ ?_
      refine wp_seq ?_
      refine C.cut (J := fun a w => ∃ (c1 : Bool), M_ref8_CheckHoles_k2 Q next1 c1 ∧ FrOk 31 [(8, .slice lA l.length lC), (9, .int .i64 (l.length : Int)), (10, .int .i64 (k1 : Int)), (29, .bool c1)] a ∧ Sat w0 none_ [hbox g1 36 [.int .i64 xk1.At.X, .int .i64 xk1.At.Y, .int .i64 xk1.Size, .int .i64 xk1.Depth, .bool xk1.Plated]] w) ?_ ?_
      · rintro a w ⟨c1, h, hf, hs⟩
        unfold M_ref8_CheckHoles_k2 at h
        refine C.cond hf (b := c1) rfl (fun hc => ?_) (fun hc => ?_)
        · replace h := h.1 hc
          refine wp_seq ?_
          refine R.list ?_
          refine S.val hf hs (v := .int .i64 1) rfl rfl rfl (V.pure rfl) (fun a hf => ?_)
          refine R.nil ?_
          refine X.then_ ?_
          refine wp_ret ?_
          refine X.blk_ret ?_
          refine X.then_ret ?_
          refine X.then_ret ?_
          refine X.blk_ret ?_
          refine X.then_ret ?_
          exact L.ret hf (run_results1 Try.results7 (ResIs.tmp hf rfl)) ⟨1, rfl, h, hs.nil⟩
        · replace h := h.2 hc
          refine wp_skip ?_
          refine X.blk ?_
          refine X.then_ ?_
          refine R.list ?_
          refine S.val hf hs (v := .int .i64 ((k1 + 1 : Nat) : Int)) rfl rfl rfl (V.incr rfl rfl rfl hltk1 hlenk1) (fun a hf => ?_)
          refine S.val hf hs (v := .int .i64 ((k1 + 1 : Nat) : Int)) rfl rfl rfl (V.pure rfl) (fun a hf => ?_)
          refine R.nil ?_
          refine X.then_ ?_
          exact ⟨xk1, llk1, rfl, k1 + 1, range_drop hlk1, range_len hkk1, (by rw [hnext1] at h; exact h), (((hf.nil.cons (hf.get 9 _ rfl)).cons (hf.get 8 _ rfl)).cons (hf.get 10 _ rfl)), hs.drop⟩
      · skip
        refine R.list ?_
        refine S.val hf hs (v := .pointer (some ⟨g1, 0, none⟩)) rfl rfl rfl (V.fieldBox rfl rfl Try.runUnderlying36 rfl Try.sizeOf34 rfl rfl) (fun a hf => ?_)
        refine S.val hf hs (v := .agg #[.int .i64 xk1.At.X, .int .i64 xk1.At.Y]) rfl rfl rfl (V.loadBox 0 rfl rfl rfl Try.isAgg34 Try.sizeOf34 rfl rfl) (fun a hf => ?_)
        refine S.callv hf rfl rfl rfl (call_fn (vs := [.agg #[.int .i64 xk1.At.X, .int .i64 xk1.At.Y]]) rfl rfl rfl Try.call16) (C_ref8_isPoint xk1.At _ ) (fun a w hf hs' => ?_)
        replace hs := hs.call hs'; clear hs'
        refine S.val hf hs (v := .bool (!(isPoint xk1.At))) rfl rfl rfl (V.pure rfl) (fun a hf => ?_)
        refine S.split hf hs (b := !(isPoint xk1.At)) rfl rfl rfl (V.pure rfl) (fun hc a hf => ?_) (fun hc a hf => ?_)
        · replace h := h.1 hc
          refine S.skip hf rfl rfl rfl (fun a hf => ?_)
          refine S.skip hf rfl rfl rfl (fun a hf => ?_)
          refine S.skip hf rfl rfl rfl (fun a hf => ?_)
          refine S.skip hf rfl rfl rfl (fun a hf => ?_)
          refine S.val hf hs (v := .bool true) rfl rfl rfl (V.pure rfl) (fun a hf => ?_)
          refine S.val hf hs (v := .bool true) rfl rfl rfl (V.pure rfl) (fun a hf => ?_)
          refine S.skip hf rfl rfl rfl (fun a hf => ?_)
          refine S.skip hf rfl rfl rfl (fun a hf => ?_)
          refine S.skip hf rfl rfl rfl (fun a hf => ?_)
          refine S.skip hf rfl rfl rfl (fun a hf => ?_)
          refine S.val hf hs (v := .bool true) rfl rfl rfl (V.pure rfl) (fun a hf => ?_)
          refine R.nil ?_
          refine X.then_ ?_
          exact ⟨true, h, ((((hf.nil.cons (hf.get 29 _ rfl)).cons (hf.get 10 _ rfl)).cons (hf.get 9 _ rfl)).cons (hf.get 8 _ rfl)), hs⟩
        · replace h := h.2 hc
          refine S.val hf hs (v := .pointer (some ⟨g1, 2, none⟩)) rfl rfl rfl (V.fieldBox rfl rfl Try.runUnderlying36 rfl Try.sizeOf3 rfl rfl) (fun a hf => ?_)
          refine S.val hf hs (v := .int .i64 xk1.Size) rfl rfl rfl (V.loadBox 0 rfl rfl rfl Try.isAgg3 Try.sizeOf3 rfl rfl) (fun a hf => ?_)
          refine S.callv hf rfl rfl rfl (call_fn (vs := [.int .i64 xk1.Size, .int .i64 1, .int .i64 10000]) rfl rfl rfl Try.call17) (C_ref8_within xk1.Size 1 10000 _ ) (fun a w hf hs' => ?_)
          replace hs := hs.call hs'; clear hs'
          refine S.val hf hs (v := .bool (!(within xk1.Size 1 10000))) rfl rfl rfl (V.pure rfl) (fun a hf => ?_)
          refine S.val hf hs (v := .bool (!(within xk1.Size 1 10000))) rfl rfl rfl (V.pure rfl) (fun a hf => ?_)
          refine S.split hf hs (b := !(within xk1.Size 1 10000)) rfl rfl rfl (V.pure rfl) (fun hc a hf => ?_) (fun hc a hf => ?_)
          · replace h := h.1 hc
            refine S.skip hf rfl rfl rfl (fun a hf => ?_)
            refine S.skip hf rfl rfl rfl (fun a hf => ?_)
            refine S.skip hf rfl rfl rfl (fun a hf => ?_)
            refine S.skip hf rfl rfl rfl (fun a hf => ?_)
            refine S.val hf hs (v := .bool true) rfl rfl rfl (V.pure rfl) (fun a hf => ?_)
            refine R.nil ?_
            refine X.then_ ?_
            exact ⟨true, h, ((((hf.nil.cons (hf.get 29 _ rfl)).cons (hf.get 10 _ rfl)).cons (hf.get 9 _ rfl)).cons (hf.get 8 _ rfl)), hs⟩
          · replace h := h.2 hc
            refine S.val hf hs (v := .pointer (some ⟨g1, 3, none⟩)) rfl rfl rfl (V.fieldBox rfl rfl Try.runUnderlying36 rfl Try.sizeOf3 rfl rfl) (fun a hf => ?_)
            refine S.val hf hs (v := .int .i64 xk1.Depth) rfl rfl rfl (V.loadBox 0 rfl rfl rfl Try.isAgg3 Try.sizeOf3 rfl rfl) (fun a hf => ?_)
            refine S.callv hf rfl rfl rfl (call_fn (vs := [.int .i64 xk1.Depth, .int .i64 1, .int .i64 100000]) rfl rfl rfl Try.call17) (C_ref8_within xk1.Depth 1 100000 _ ) (fun a w hf hs' => ?_)
            replace hs := hs.call hs'; clear hs'
            refine S.val hf hs (v := .bool (!(within xk1.Depth 1 100000))) rfl rfl rfl (V.pure rfl) (fun a hf => ?_)
            refine S.val hf hs (v := .bool (!(within xk1.Depth 1 100000))) rfl rfl rfl (V.pure rfl) (fun a hf => ?_)
            refine R.nil ?_
            refine X.then_ ?_
            exact ⟨(!(within xk1.Depth 1 100000)), h, ((((hf.nil.cons (hf.get 29 _ rfl)).cons (hf.get 10 _ rfl)).cons (hf.get 9 _ rfl)).cons (hf.get 8 _ rfl)), hs⟩

set_option linter.unusedVariables false
def M_lite_IndexByte (s_ : Str) (c : Int) (Q : Int → Prop) : Prop :=
  Q (byteAt s_ c)
set_option maxHeartbeats 1000000 in
theorem R_lite_IndexByte (s_ : Str) (c : Int) (w0 : World)  (Q : Int → Prop) (h : M_lite_IndexByte s_ c Q) :
    Ret Try.prog 39 #[.string (ba s_), .int .u8 c] w0 fun v w' => ∃ (r0 : Int), v = .int .i64 r0 ∧ Q r0 ∧ Sat w0 none_ [] w' := by
  refine fn_enter Try.func39 rfl Try.ntmps39 rfl (fs := [(0, .string (ba s_)), (1, .int .u8 c)]) rfl (fun a hf => ?_)
  have hs := Sat.start w0 none_
  unfold M_lite_IndexByte at h
  refine wp_seq ?_
  refine R.list ?_
  refine S.val hf hs (v := .int .i64 0) rfl rfl rfl (V.pure rfl) (fun a hf => ?_)
  refine R.nil ?_
  refine X.then_ ?_
  refine wp_seq ?_
  refine R.list ?_
  refine S.val hf hs (v := .string (ba s_)) rfl rfl rfl (V.pure rfl) (fun a hf => ?_)
  refine S.val hf hs (v := .int .u8 c) rfl rfl rfl (V.pure rfl) (fun a hf => ?_)
  refine S.val hf hs (v := .int .i64 (byteAt s_ c)) rfl rfl rfl (V.extern Try.func49 (by kernel_rfl) (by kernel_rfl) (by kernel_rfl) (by kernel_rfl) rfl rfl rfl (run_byteAt _ _)) (fun a hf => ?_)
  refine S.val hf hs (v := .int .i64 (byteAt s_ c)) rfl rfl rfl (V.pure rfl) (fun a hf => ?_)
  refine R.nil ?_
  refine X.then_ ?_
  refine wp_ret ?_
  exact L.ret hf (run_results1 Try.results39 (ResIs.tmp hf rfl)) ⟨(byteAt s_ c), rfl, h, hs.nil⟩

theorem E_lite_IndexByte (s : Str) (c : Int) : M_lite_IndexByte s c (· = byteAt s c) := rfl
theorem C_lite_IndexByte (s_ : Str) (c : Int) (w0 : World)  : Ret Try.prog 39 #[.string (ba s_), .int .u8 c] w0 fun v w' => v = .int .i64 (byteAt s_ c) ∧ Sat w0 none_ [] w' :=
  (R_lite_IndexByte s_ c w0  (· = (byteAt s_ c)) (E_lite_IndexByte s_ c)).mono fun v w' ⟨r0, hv, hr, hs⟩ => ⟨by subst hr; exact hv, hs⟩

set_option linter.unusedVariables false
def M_strings_IndexByte (s_ : Str) (c : Int) (Q : Int → Prop) : Prop :=
  Q (byteAt s_ c)
set_option maxHeartbeats 1000000 in
theorem R_strings_IndexByte (s_ : Str) (c : Int) (w0 : World)  (Q : Int → Prop) (h : M_strings_IndexByte s_ c Q) :
    Ret Try.prog 24 #[.string (ba s_), .int .u8 c] w0 fun v w' => ∃ (r0 : Int), v = .int .i64 r0 ∧ Q r0 ∧ Sat w0 none_ [] w' := by
  refine fn_enter Try.func24 rfl Try.ntmps24 rfl (fs := [(0, .string (ba s_)), (1, .int .u8 c)]) rfl (fun a hf => ?_)
  have hs := Sat.start w0 none_
  unfold M_strings_IndexByte at h
  refine wp_seq ?_
  refine R.list ?_
  refine S.val hf hs (v := .int .i64 0) rfl rfl rfl (V.pure rfl) (fun a hf => ?_)
  refine R.nil ?_
  refine X.then_ ?_
  refine wp_seq ?_
  refine R.list ?_
  refine S.val hf hs (v := .string (ba s_)) rfl rfl rfl (V.pure rfl) (fun a hf => ?_)
  refine S.val hf hs (v := .int .u8 c) rfl rfl rfl (V.pure rfl) (fun a hf => ?_)
  refine S.callv hf rfl rfl rfl (call_fn (vs := [.string (ba s_), .int .u8 c]) rfl rfl rfl Try.call39) (C_lite_IndexByte s_ c _ ) (fun a w hf hs' => ?_)
  replace hs := hs.call hs'; clear hs'
  refine S.val hf hs (v := .int .i64 (byteAt s_ c)) rfl rfl rfl (V.pure rfl) (fun a hf => ?_)
  refine R.nil ?_
  refine X.then_ ?_
  refine wp_ret ?_
  exact L.ret hf (run_results1 Try.results24 (ResIs.tmp hf rfl)) ⟨(byteAt s_ c), rfl, h, hs.nil⟩

theorem E_strings_IndexByte (s : Str) (c : Int) : M_strings_IndexByte s c (· = byteAt s c) := rfl
theorem C_strings_IndexByte (s_ : Str) (c : Int) (w0 : World)  : Ret Try.prog 24 #[.string (ba s_), .int .u8 c] w0 fun v w' => v = .int .i64 (byteAt s_ c) ∧ Sat w0 none_ [] w' :=
  (R_strings_IndexByte s_ c w0  (· = (byteAt s_ c)) (E_strings_IndexByte s_ c)).mono fun v w' ⟨r0, hv, hr, hs⟩ => ⟨by subst hr; exact hv, hs⟩

set_option linter.unusedVariables false
def M_netlist_IsWord_k2 (Q : Bool → Prop) (n2 : Int) (again1 : Int → Prop) (c1 : Bool) : Prop :=
  cnd c1 (Q false) (again1 (w64 (n2 + 1)))
def M_netlist_IsWord_L1 (s_ : Str) (Q : Bool → Prop) (again1 : Int → Prop) (n2 : Int) : Prop :=
  cnd (decide (n2 < (s_.length : Int))) (idx s_ n2 fun x1 => cnd (decide ((x1.toNat : Int) < 65)) (cnd (decide ((x1.toNat : Int) < 97)) (cnd (decide ((x1.toNat : Int) < 48)) (M_netlist_IsWord_k2 Q n2 again1 (decide ((byteAt [95, 43, 45, 35] (x1.toNat : Int)) < 0))) (cnd (decide ((x1.toNat : Int) > 57)) (M_netlist_IsWord_k2 Q n2 again1 (decide ((byteAt [95, 43, 45, 35] (x1.toNat : Int)) < 0))) (M_netlist_IsWord_k2 Q n2 again1 false))) (cnd (decide ((x1.toNat : Int) > 122)) (cnd (decide ((x1.toNat : Int) < 48)) (M_netlist_IsWord_k2 Q n2 again1 (decide ((byteAt [95, 43, 45, 35] (x1.toNat : Int)) < 0))) (cnd (decide ((x1.toNat : Int) > 57)) (M_netlist_IsWord_k2 Q n2 again1 (decide ((byteAt [95, 43, 45, 35] (x1.toNat : Int)) < 0))) (M_netlist_IsWord_k2 Q n2 again1 false))) (M_netlist_IsWord_k2 Q n2 again1 false))) (cnd (decide ((x1.toNat : Int) > 90)) (cnd (decide ((x1.toNat : Int) < 97)) (cnd (decide ((x1.toNat : Int) < 48)) (M_netlist_IsWord_k2 Q n2 again1 (decide ((byteAt [95, 43, 45, 35] (x1.toNat : Int)) < 0))) (cnd (decide ((x1.toNat : Int) > 57)) (M_netlist_IsWord_k2 Q n2 again1 (decide ((byteAt [95, 43, 45, 35] (x1.toNat : Int)) < 0))) (M_netlist_IsWord_k2 Q n2 again1 false))) (cnd (decide ((x1.toNat : Int) > 122)) (cnd (decide ((x1.toNat : Int) < 48)) (M_netlist_IsWord_k2 Q n2 again1 (decide ((byteAt [95, 43, 45, 35] (x1.toNat : Int)) < 0))) (cnd (decide ((x1.toNat : Int) > 57)) (M_netlist_IsWord_k2 Q n2 again1 (decide ((byteAt [95, 43, 45, 35] (x1.toNat : Int)) < 0))) (M_netlist_IsWord_k2 Q n2 again1 false))) (M_netlist_IsWord_k2 Q n2 again1 false))) (M_netlist_IsWord_k2 Q n2 again1 false))) (cnd (decide ((s_.length : Int) ≥ 1)) (Q (decide ((s_.length : Int) ≤ 40))) (Q false))
def M_netlist_IsWord (s_ : Str) (Q : Bool → Prop) : Prop :=
  lp (fun again (s : Int) => M_netlist_IsWord_L1 s_ Q (fun n2 => again n2) s) 0
set_option maxHeartbeats 1000000 in
theorem R_netlist_IsWord (s_ : Str) (w0 : World)  (Q : Bool → Prop) (h : M_netlist_IsWord s_ Q) :
    Ret Try.prog 18 #[.string (ba s_)] w0 fun v w' => ∃ (r0 : Bool), v = .bool r0 ∧ Q r0 ∧ Sat w0 none_ [] w' := by
  refine fn_enter Try.func18 rfl Try.ntmps18 rfl (fs := [(0, .string (ba s_))]) rfl (fun a hf => ?_)
  have hs := Sat.start w0 none_
  unfold M_netlist_IsWord at h
  refine wp_seq ?_
  refine R.list ?_
  refine S.val hf hs (v := .bool false) rfl rfl rfl (V.pure rfl) (fun a hf => ?_)
  refine R.nil ?_
  refine X.then_ ?_
  refine wp_seq ?_
  refine wp_seq ?_
  refine R.list ?_
  refine S.val hf hs (v := .string (ba s_)) rfl rfl rfl (V.pure rfl) (fun a hf => ?_)
  refine S.val hf hs (v := .int .i64 (s_.length : Int)) rfl rfl rfl (V.lenStr rfl rfl Try.runUnderlying9) (fun a hf => ?_)
  refine S.val hf hs (v := .int .i64 0) rfl rfl rfl (V.pure rfl) (fun a hf => ?_)
  refine R.nil ?_
  refine X.then_ ?_
  refine wp_block ?_
  obtain ⟨kk, h⟩ := h
  refine C.loop (fun kk a w => ∃ (n2 : Int), iterF (fun again (s : Int) => M_netlist_IsWord_L1 s_ Q (fun n2 => again n2) s) kk n2 ∧ FrOk 49 [(0, .string (ba s_)), (6, .int .i64 (s_.length : Int)), (7, .int .i64 n2)] a ∧ Sat w0 none_ [] w) kk ⟨0, h, (((hf.nil.cons (hf.get 7 _ rfl)).cons (hf.get 6 _ rfl)).cons (hf.get 0 _ rfl)), hs⟩ (fun a w ⟨_, h, _, _⟩ => h) ?_
  clear h hf hs
  rintro kk a w ⟨n2, h, hf, hs⟩
  obtain ⟨again1, hagain1⟩ : ∃ X : Int → Prop, X = (fun n2 => iterF (fun again (s : Int) => M_netlist_IsWord_L1 s_ Q (fun n2 => again n2) s) kk n2) := ⟨_, rfl⟩
  replace h : M_netlist_IsWord_L1 s_ Q again1 n2 := by rw [hagain1]; exact h
  unfold M_netlist_IsWord_L1 at h
  refine wp_seq ?_
  refine R.list ?_
  refine S.val hf hs (v := .bool (decide (n2 < (s_.length : Int)))) rfl rfl rfl (V.pure rfl) (fun a hf => ?_)
  refine R.nil ?_
  refine X.then_ ?_
  refine wp_seq ?_
  refine C.cond hf (b := decide (n2 < (s_.length : Int))) rfl (fun hc => ?_) (fun hc => ?_)
  · replace h := h.1 hc
    refine wp_skip ?_
    refine X.then_ ?_
    refine wp_seq ?_
    refine wp_block ?_
    refine wp_seq ?_
    refine R.list ?_
    refine S.val hf hs (v := .int .i64 n2) rfl rfl rfl (V.pure rfl) (fun a hf => ?_)
    refine S.val hf hs (v := .int .i64 n2) rfl rfl rfl (V.pure rfl) (fun a hf => ?_)
    refine R.nil ?_
    refine X.then_ ?_
    refine wp_seq ?_
    refine R.list ?_
    refine S.val hf hs (v := .string (ba s_)) rfl rfl rfl (V.pure rfl) (fun a hf => ?_)
    refine S.val hf hs (v := .int .i64 n2) rfl rfl rfl (V.pure rfl) (fun a hf => ?_)
    obtain ⟨h0x1, x1, hx1, h⟩ := h
    refine S.val hf hs (v := .int .u8 (x1.toNat : Int)) rfl rfl rfl (V.indexStr rfl rfl rfl Try.runUnderlying9 h0x1 hx1) (fun a hf => ?_)
    refine S.val hf hs (v := .int .u8 (x1.toNat : Int)) rfl rfl rfl (V.pure rfl) (fun a hf => ?_)
    refine R.nil ?_
    refine X.then_ ?_
    refine wp_seq ?_
    refine C.cut (J := fun a w => ∃ (c1 : Bool), M_netlist_IsWord_k2 Q n2 again1 c1 ∧ FrOk 49 [(0, .string (ba s_)), (6, .int .i64 (s_.length : Int)), (7, .int .i64 n2), (39, .bool c1)] a ∧ Sat w0 none_ [] w) ?_ ?_
    · rintro a w ⟨c1, h, hf, hs⟩
      unfold M_netlist_IsWord_k2 at h
      refine C.cond hf (b := c1) rfl (fun hc => ?_) (fun hc => ?_)
      · replace h := h.1 hc
        refine wp_seq ?_
        refine R.list ?_
        refine S.val hf hs (v := .bool false) rfl rfl rfl (V.pure rfl) (fun a hf => ?_)
        refine R.nil ?_
        refine X.then_ ?_
        refine wp_ret ?_
        refine X.blk_ret ?_
        refine X.then_ret ?_
        refine X.then_ret ?_
        refine X.blk_ret ?_
        refine X.then_ret ?_
        exact L.ret hf (run_results1 Try.results18 (ResIs.tmp hf rfl)) ⟨false, rfl, h, hs.nil⟩
      · replace h := h.2 hc
        refine wp_skip ?_
        refine X.blk ?_
        refine X.then_ ?_
        refine R.list ?_
        refine S.val hf hs (v := .int .i64 (w64 (n2 + 1))) rfl rfl rfl (V.pure rfl) (fun a hf => ?_)
        refine S.val hf hs (v := .int .i64 (w64 (n2 + 1))) rfl rfl rfl (V.pure rfl) (fun a hf => ?_)
        refine R.nil ?_
        refine X.then_ ?_
        exact ⟨(w64 (n2 + 1)), (by rw [hagain1] at h; exact h), (((hf.nil.cons (hf.get 7 _ rfl)).cons (hf.get 6 _ rfl)).cons (hf.get 0 _ rfl)), hs⟩
    · skip
      refine R.list ?_
      refine S.val hf hs (v := .int .u8 (x1.toNat : Int)) rfl rfl rfl (V.pure rfl) (fun a hf => ?_)
      refine S.val hf hs (v := .bool (decide ((x1.toNat : Int) < 65))) rfl rfl rfl (V.pure rfl) (fun a hf => ?_)
      refine S.split hf hs (b := decide ((x1.toNat : Int) < 65)) rfl rfl rfl (V.pure rfl) (fun hc a hf => ?_) (fun hc a hf => ?_)
      · replace h := h.1 hc
        refine S.skip hf rfl rfl rfl (fun a hf => ?_)
        refine S.skip hf rfl rfl rfl (fun a hf => ?_)
        refine S.val hf hs (v := .bool true) rfl rfl rfl (V.pure rfl) (fun a hf => ?_)
        refine S.val hf hs (v := .bool true) rfl rfl rfl (V.pure rfl) (fun a hf => ?_)
        refine S.val hf hs (v := .int .u8 (x1.toNat : Int)) rfl rfl rfl (V.pure rfl) (fun a hf => ?_)
        refine S.val hf hs (v := .bool (decide ((x1.toNat : Int) < 97))) rfl rfl rfl (V.pure rfl) (fun a hf => ?_)
        refine S.split hf hs (b := decide ((x1.toNat : Int) < 97)) rfl rfl rfl (V.pure rfl) (fun hc a hf => ?_) (fun hc a hf => ?_)
        · replace h := h.1 hc
          refine S.skip hf rfl rfl rfl (fun a hf => ?_)
          refine S.skip hf rfl rfl rfl (fun a hf => ?_)
          refine S.val hf hs (v := .bool true) rfl rfl rfl (V.pure rfl) (fun a hf => ?_)
          refine S.val hf hs (v := .bool true) rfl rfl rfl (V.pure rfl) (fun a hf => ?_)
          refine S.val hf hs (v := .bool true) rfl rfl rfl (V.pure rfl) (fun a hf => ?_)
          refine S.val hf hs (v := .int .u8 (x1.toNat : Int)) rfl rfl rfl (V.pure rfl) (fun a hf => ?_)
          refine S.val hf hs (v := .bool (decide ((x1.toNat : Int) < 48))) rfl rfl rfl (V.pure rfl) (fun a hf => ?_)
          refine S.split hf hs (b := decide ((x1.toNat : Int) < 48)) rfl rfl rfl (V.pure rfl) (fun hc a hf => ?_) (fun hc a hf => ?_)
          · replace h := h.1 hc
            refine S.skip hf rfl rfl rfl (fun a hf => ?_)
            refine S.skip hf rfl rfl rfl (fun a hf => ?_)
            refine S.val hf hs (v := .bool true) rfl rfl rfl (V.pure rfl) (fun a hf => ?_)
            refine S.val hf hs (v := .bool true) rfl rfl rfl (V.pure rfl) (fun a hf => ?_)
            refine S.val hf hs (v := .bool true) rfl rfl rfl (V.pure rfl) (fun a hf => ?_)
            refine S.val hf hs (v := .int .u8 (x1.toNat : Int)) rfl rfl rfl (V.pure rfl) (fun a hf => ?_)
            refine S.callv hf rfl rfl rfl (call_fn (vs := [.string (ba [95, 43, 45, 35]), .int .u8 (x1.toNat : Int)]) rfl rfl rfl Try.call24) (C_strings_IndexByte [95, 43, 45, 35] (x1.toNat : Int) _ ) (fun a w hf hs' => ?_)
            replace hs := hs.call hs'; clear hs'
            refine S.val hf hs (v := .bool (decide ((byteAt [95, 43, 45, 35] (x1.toNat : Int)) < 0))) rfl rfl rfl (V.pure rfl) (fun a hf => ?_)
            refine S.val hf hs (v := .bool (decide ((byteAt [95, 43, 45, 35] (x1.toNat : Int)) < 0))) rfl rfl rfl (V.pure rfl) (fun a hf => ?_)
            refine R.nil ?_
            refine X.then_ ?_
            exact ⟨(decide ((byteAt [95, 43, 45, 35] (x1.toNat : Int)) < 0)), h, ((((hf.nil.cons (hf.get 39 _ rfl)).cons (hf.get 7 _ rfl)).cons (hf.get 6 _ rfl)).cons (hf.get 0 _ rfl)), hs⟩
          · replace h := h.2 hc
            refine S.val hf hs (v := .int .u8 (x1.toNat : Int)) rfl rfl rfl (V.pure rfl) (fun a hf => ?_)
            refine S.val hf hs (v := .bool (decide ((x1.toNat : Int) > 57))) rfl rfl rfl (V.pure rfl) (fun a hf => ?_)
            refine S.val hf hs (v := .bool (decide ((x1.toNat : Int) > 57))) rfl rfl rfl (V.pure rfl) (fun a hf => ?_)
            refine S.val hf hs (v := .bool (decide ((x1.toNat : Int) > 57))) rfl rfl rfl (V.pure rfl) (fun a hf => ?_)
            refine S.split hf hs (b := decide ((x1.toNat : Int) > 57)) rfl rfl rfl (V.pure rfl) (fun hc a hf => ?_) (fun hc a hf => ?_)
            · replace h := h.1 hc
              refine S.val hf hs (v := .int .u8 (x1.toNat : Int)) rfl rfl rfl (V.pure rfl) (fun a hf => ?_)
              refine S.callv hf rfl rfl rfl (call_fn (vs := [.string (ba [95, 43, 45, 35]), .int .u8 (x1.toNat : Int)]) rfl rfl rfl Try.call24) (C_strings_IndexByte [95, 43, 45, 35] (x1.toNat : Int) _ ) (fun a w hf hs' => ?_)
              replace hs := hs.call hs'; clear hs'
              refine S.val hf hs (v := .bool (decide ((byteAt [95, 43, 45, 35] (x1.toNat : Int)) < 0))) rfl rfl rfl (V.pure rfl) (fun a hf => ?_)
              refine S.val hf hs (v := .bool (decide ((byteAt [95, 43, 45, 35] (x1.toNat : Int)) < 0))) rfl rfl rfl (V.pure rfl) (fun a hf => ?_)
              refine R.nil ?_
              refine X.then_ ?_
              exact ⟨(decide ((byteAt [95, 43, 45, 35] (x1.toNat : Int)) < 0)), h, ((((hf.nil.cons (hf.get 39 _ rfl)).cons (hf.get 7 _ rfl)).cons (hf.get 6 _ rfl)).cons (hf.get 0 _ rfl)), hs⟩
            · replace h := h.2 hc
              refine S.skip hf rfl rfl rfl (fun a hf => ?_)
              refine S.skip hf rfl rfl rfl (fun a hf => ?_)
              refine S.skip hf rfl rfl rfl (fun a hf => ?_)
              refine S.val hf hs (v := .bool false) rfl rfl rfl (V.pure rfl) (fun a hf => ?_)
              refine R.nil ?_
              refine X.then_ ?_
              exact ⟨false, h, ((((hf.nil.cons (hf.get 39 _ rfl)).cons (hf.get 7 _ rfl)).cons (hf.get 6 _ rfl)).cons (hf.get 0 _ rfl)), hs⟩
        · replace h := h.2 hc
          refine S.val hf hs (v := .int .u8 (x1.toNat : Int)) rfl rfl rfl (V.pure rfl) (fun a hf => ?_)
          refine S.val hf hs (v := .bool (decide ((x1.toNat : Int) > 122))) rfl rfl rfl (V.pure rfl) (fun a hf => ?_)
          refine S.val hf hs (v := .bool (decide ((x1.toNat : Int) > 122))) rfl rfl rfl (V.pure rfl) (fun a hf => ?_)
          refine S.val hf hs (v := .bool (decide ((x1.toNat : Int) > 122))) rfl rfl rfl (V.pure rfl) (fun a hf => ?_)
          refine S.split hf hs (b := decide ((x1.toNat : Int) > 122)) rfl rfl rfl (V.pure rfl) (fun hc a hf => ?_) (fun hc a hf => ?_)
          · replace h := h.1 hc
            refine S.val hf hs (v := .int .u8 (x1.toNat : Int)) rfl rfl rfl (V.pure rfl) (fun a hf => ?_)
            refine S.val hf hs (v := .bool (decide ((x1.toNat : Int) < 48))) rfl rfl rfl (V.pure rfl) (fun a hf => ?_)
            refine S.split hf hs (b := decide ((x1.toNat : Int) < 48)) rfl rfl rfl (V.pure rfl) (fun hc a hf => ?_) (fun hc a hf => ?_)
            · replace h := h.1 hc
              refine S.skip hf rfl rfl rfl (fun a hf => ?_)
              refine S.skip hf rfl rfl rfl (fun a hf => ?_)
              refine S.val hf hs (v := .bool true) rfl rfl rfl (V.pure rfl) (fun a hf => ?_)
              refine S.val hf hs (v := .bool true) rfl rfl rfl (V.pure rfl) (fun a hf => ?_)
              refine S.val hf hs (v := .bool true) rfl rfl rfl (V.pure rfl) (fun a hf => ?_)
              refine S.val hf hs (v := .int .u8 (x1.toNat : Int)) rfl rfl rfl (V.pure rfl) (fun a hf => ?_)
              refine S.callv hf rfl rfl rfl (call_fn (vs := [.string (ba [95, 43, 45, 35]), .int .u8 (x1.toNat : Int)]) rfl rfl rfl Try.call24) (C_strings_IndexByte [95, 43, 45, 35] (x1.toNat : Int) _ ) (fun a w hf hs' => ?_)
              replace hs := hs.call hs'; clear hs'
              refine S.val hf hs (v := .bool (decide ((byteAt [95, 43, 45, 35] (x1.toNat : Int)) < 0))) rfl rfl rfl (V.pure rfl) (fun a hf => ?_)
              refine S.val hf hs (v := .bool (decide ((byteAt [95, 43, 45, 35] (x1.toNat : Int)) < 0))) rfl rfl rfl (V.pure rfl) (fun a hf => ?_)
              refine R.nil ?_
              refine X.then_ ?_
              exact ⟨(decide ((byteAt [95, 43, 45, 35] (x1.toNat : Int)) < 0)), h, ((((hf.nil.cons (hf.get 39 _ rfl)).cons (hf.get 7 _ rfl)).cons (hf.get 6 _ rfl)).cons (hf.get 0 _ rfl)), hs⟩
            · replace h := h.2 hc
              refine S.val hf hs (v := .int .u8 (x1.toNat : Int)) rfl rfl rfl (V.pure rfl) (fun a hf => ?_)
              refine S.val hf hs (v := .bool (decide ((x1.toNat : Int) > 57))) rfl rfl rfl (V.pure rfl) (fun a hf => ?_)
              refine S.val hf hs (v := .bool (decide ((x1.toNat : Int) > 57))) rfl rfl rfl (V.pure rfl) (fun a hf => ?_)
              refine S.val hf hs (v := .bool (decide ((x1.toNat : Int) > 57))) rfl rfl rfl (V.pure rfl) (fun a hf => ?_)
              refine S.split hf hs (b := decide ((x1.toNat : Int) > 57)) rfl rfl rfl (V.pure rfl) (fun hc a hf => ?_) (fun hc a hf => ?_)
              · replace h := h.1 hc
                refine S.val hf hs (v := .int .u8 (x1.toNat : Int)) rfl rfl rfl (V.pure rfl) (fun a hf => ?_)
                refine S.callv hf rfl rfl rfl (call_fn (vs := [.string (ba [95, 43, 45, 35]), .int .u8 (x1.toNat : Int)]) rfl rfl rfl Try.call24) (C_strings_IndexByte [95, 43, 45, 35] (x1.toNat : Int) _ ) (fun a w hf hs' => ?_)
                replace hs := hs.call hs'; clear hs'
                refine S.val hf hs (v := .bool (decide ((byteAt [95, 43, 45, 35] (x1.toNat : Int)) < 0))) rfl rfl rfl (V.pure rfl) (fun a hf => ?_)
                refine S.val hf hs (v := .bool (decide ((byteAt [95, 43, 45, 35] (x1.toNat : Int)) < 0))) rfl rfl rfl (V.pure rfl) (fun a hf => ?_)
                refine R.nil ?_
                refine X.then_ ?_
                exact ⟨(decide ((byteAt [95, 43, 45, 35] (x1.toNat : Int)) < 0)), h, ((((hf.nil.cons (hf.get 39 _ rfl)).cons (hf.get 7 _ rfl)).cons (hf.get 6 _ rfl)).cons (hf.get 0 _ rfl)), hs⟩
              · replace h := h.2 hc
                refine S.skip hf rfl rfl rfl (fun a hf => ?_)
                refine S.skip hf rfl rfl rfl (fun a hf => ?_)
                refine S.skip hf rfl rfl rfl (fun a hf => ?_)
                refine S.val hf hs (v := .bool false) rfl rfl rfl (V.pure rfl) (fun a hf => ?_)
                refine R.nil ?_
                refine X.then_ ?_
                exact ⟨false, h, ((((hf.nil.cons (hf.get 39 _ rfl)).cons (hf.get 7 _ rfl)).cons (hf.get 6 _ rfl)).cons (hf.get 0 _ rfl)), hs⟩
          · replace h := h.2 hc
            refine S.skip hf rfl rfl rfl (fun a hf => ?_)
            refine S.skip hf rfl rfl rfl (fun a hf => ?_)
            refine S.skip hf rfl rfl rfl (fun a hf => ?_)
            refine S.skip hf rfl rfl rfl (fun a hf => ?_)
            refine S.skip hf rfl rfl rfl (fun a hf => ?_)
            refine S.skip hf rfl rfl rfl (fun a hf => ?_)
            refine S.val hf hs (v := .bool false) rfl rfl rfl (V.pure rfl) (fun a hf => ?_)
            refine S.val hf hs (v := .bool false) rfl rfl rfl (V.pure rfl) (fun a hf => ?_)
            refine S.skip hf rfl rfl rfl (fun a hf => ?_)
            refine S.skip hf rfl rfl rfl (fun a hf => ?_)
            refine S.skip hf rfl rfl rfl (fun a hf => ?_)
            refine S.val hf hs (v := .bool false) rfl rfl rfl (V.pure rfl) (fun a hf => ?_)
            refine R.nil ?_
            refine X.then_ ?_
            exact ⟨false, h, ((((hf.nil.cons (hf.get 39 _ rfl)).cons (hf.get 7 _ rfl)).cons (hf.get 6 _ rfl)).cons (hf.get 0 _ rfl)), hs⟩
      · replace h := h.2 hc
        refine S.val hf hs (v := .int .u8 (x1.toNat : Int)) rfl rfl rfl (V.pure rfl) (fun a hf => ?_)
        refine S.val hf hs (v := .bool (decide ((x1.toNat : Int) > 90))) rfl rfl rfl (V.pure rfl) (fun a hf => ?_)
        refine S.val hf hs (v := .bool (decide ((x1.toNat : Int) > 90))) rfl rfl rfl (V.pure rfl) (fun a hf => ?_)
        refine S.split hf hs (b := decide ((x1.toNat : Int) > 90)) rfl rfl rfl (V.pure rfl) (fun hc a hf => ?_) (fun hc a hf => ?_)
        · replace h := h.1 hc
          refine S.val hf hs (v := .int .u8 (x1.toNat : Int)) rfl rfl rfl (V.pure rfl) (fun a hf => ?_)
          refine S.val hf hs (v := .bool (decide ((x1.toNat : Int) < 97))) rfl rfl rfl (V.pure rfl) (fun a hf => ?_)
          refine S.split hf hs (b := decide ((x1.toNat : Int) < 97)) rfl rfl rfl (V.pure rfl) (fun hc a hf => ?_) (fun hc a hf => ?_)
          · replace h := h.1 hc
            refine S.skip hf rfl rfl rfl (fun a hf => ?_)
            refine S.skip hf rfl rfl rfl (fun a hf => ?_)
            refine S.val hf hs (v := .bool true) rfl rfl rfl (V.pure rfl) (fun a hf => ?_)
            refine S.val hf hs (v := .bool true) rfl rfl rfl (V.pure rfl) (fun a hf => ?_)
            refine S.val hf hs (v := .bool true) rfl rfl rfl (V.pure rfl) (fun a hf => ?_)
            refine S.val hf hs (v := .int .u8 (x1.toNat : Int)) rfl rfl rfl (V.pure rfl) (fun a hf => ?_)
            refine S.val hf hs (v := .bool (decide ((x1.toNat : Int) < 48))) rfl rfl rfl (V.pure rfl) (fun a hf => ?_)
            refine S.split hf hs (b := decide ((x1.toNat : Int) < 48)) rfl rfl rfl (V.pure rfl) (fun hc a hf => ?_) (fun hc a hf => ?_)
            · replace h := h.1 hc
              refine S.skip hf rfl rfl rfl (fun a hf => ?_)
              refine S.skip hf rfl rfl rfl (fun a hf => ?_)
              refine S.val hf hs (v := .bool true) rfl rfl rfl (V.pure rfl) (fun a hf => ?_)
              refine S.val hf hs (v := .bool true) rfl rfl rfl (V.pure rfl) (fun a hf => ?_)
              refine S.val hf hs (v := .bool true) rfl rfl rfl (V.pure rfl) (fun a hf => ?_)
              refine S.val hf hs (v := .int .u8 (x1.toNat : Int)) rfl rfl rfl (V.pure rfl) (fun a hf => ?_)
              refine S.callv hf rfl rfl rfl (call_fn (vs := [.string (ba [95, 43, 45, 35]), .int .u8 (x1.toNat : Int)]) rfl rfl rfl Try.call24) (C_strings_IndexByte [95, 43, 45, 35] (x1.toNat : Int) _ ) (fun a w hf hs' => ?_)
              replace hs := hs.call hs'; clear hs'
              refine S.val hf hs (v := .bool (decide ((byteAt [95, 43, 45, 35] (x1.toNat : Int)) < 0))) rfl rfl rfl (V.pure rfl) (fun a hf => ?_)
              refine S.val hf hs (v := .bool (decide ((byteAt [95, 43, 45, 35] (x1.toNat : Int)) < 0))) rfl rfl rfl (V.pure rfl) (fun a hf => ?_)
              refine R.nil ?_
              refine X.then_ ?_
              exact ⟨(decide ((byteAt [95, 43, 45, 35] (x1.toNat : Int)) < 0)), h, ((((hf.nil.cons (hf.get 39 _ rfl)).cons (hf.get 7 _ rfl)).cons (hf.get 6 _ rfl)).cons (hf.get 0 _ rfl)), hs⟩
            · replace h := h.2 hc
              refine S.val hf hs (v := .int .u8 (x1.toNat : Int)) rfl rfl rfl (V.pure rfl) (fun a hf => ?_)
              refine S.val hf hs (v := .bool (decide ((x1.toNat : Int) > 57))) rfl rfl rfl (V.pure rfl) (fun a hf => ?_)
              refine S.val hf hs (v := .bool (decide ((x1.toNat : Int) > 57))) rfl rfl rfl (V.pure rfl) (fun a hf => ?_)
              refine S.val hf hs (v := .bool (decide ((x1.toNat : Int) > 57))) rfl rfl rfl (V.pure rfl) (fun a hf => ?_)
              refine S.split hf hs (b := decide ((x1.toNat : Int) > 57)) rfl rfl rfl (V.pure rfl) (fun hc a hf => ?_) (fun hc a hf => ?_)
              · replace h := h.1 hc
                refine S.val hf hs (v := .int .u8 (x1.toNat : Int)) rfl rfl rfl (V.pure rfl) (fun a hf => ?_)
                refine S.callv hf rfl rfl rfl (call_fn (vs := [.string (ba [95, 43, 45, 35]), .int .u8 (x1.toNat : Int)]) rfl rfl rfl Try.call24) (C_strings_IndexByte [95, 43, 45, 35] (x1.toNat : Int) _ ) (fun a w hf hs' => ?_)
                replace hs := hs.call hs'; clear hs'
                refine S.val hf hs (v := .bool (decide ((byteAt [95, 43, 45, 35] (x1.toNat : Int)) < 0))) rfl rfl rfl (V.pure rfl) (fun a hf => ?_)
                refine S.val hf hs (v := .bool (decide ((byteAt [95, 43, 45, 35] (x1.toNat : Int)) < 0))) rfl rfl rfl (V.pure rfl) (fun a hf => ?_)
                refine R.nil ?_
                refine X.then_ ?_
                exact ⟨(decide ((byteAt [95, 43, 45, 35] (x1.toNat : Int)) < 0)), h, ((((hf.nil.cons (hf.get 39 _ rfl)).cons (hf.get 7 _ rfl)).cons (hf.get 6 _ rfl)).cons (hf.get 0 _ rfl)), hs⟩
              · replace h := h.2 hc
                refine S.skip hf rfl rfl rfl (fun a hf => ?_)
                refine S.skip hf rfl rfl rfl (fun a hf => ?_)
                refine S.skip hf rfl rfl rfl (fun a hf => ?_)
                refine S.val hf hs (v := .bool false) rfl rfl rfl (V.pure rfl) (fun a hf => ?_)
                refine R.nil ?_
                refine X.then_ ?_
                exact ⟨false, h, ((((hf.nil.cons (hf.get 39 _ rfl)).cons (hf.get 7 _ rfl)).cons (hf.get 6 _ rfl)).cons (hf.get 0 _ rfl)), hs⟩
          · replace h := h.2 hc
            refine S.val hf hs (v := .int .u8 (x1.toNat : Int)) rfl rfl rfl (V.pure rfl) (fun a hf => ?_)
            refine S.val hf hs (v := .bool (decide ((x1.toNat : Int) > 122))) rfl rfl rfl (V.pure rfl) (fun a hf => ?_)
            refine S.val hf hs (v := .bool (decide ((x1.toNat : Int) > 122))) rfl rfl rfl (V.pure rfl) (fun a hf => ?_)
            refine S.val hf hs (v := .bool (decide ((x1.toNat : Int) > 122))) rfl rfl rfl (V.pure rfl) (fun a hf => ?_)
            refine S.split hf hs (b := decide ((x1.toNat : Int) > 122)) rfl rfl rfl (V.pure rfl) (fun hc a hf => ?_) (fun hc a hf => ?_)
            · replace h := h.1 hc
              refine S.val hf hs (v := .int .u8 (x1.toNat : Int)) rfl rfl rfl (V.pure rfl) (fun a hf => ?_)
              refine S.val hf hs (v := .bool (decide ((x1.toNat : Int) < 48))) rfl rfl rfl (V.pure rfl) (fun a hf => ?_)
              refine S.split hf hs (b := decide ((x1.toNat : Int) < 48)) rfl rfl rfl (V.pure rfl) (fun hc a hf => ?_) (fun hc a hf => ?_)
              · replace h := h.1 hc
                refine S.skip hf rfl rfl rfl (fun a hf => ?_)
                refine S.skip hf rfl rfl rfl (fun a hf => ?_)
                refine S.val hf hs (v := .bool true) rfl rfl rfl (V.pure rfl) (fun a hf => ?_)
                refine S.val hf hs (v := .bool true) rfl rfl rfl (V.pure rfl) (fun a hf => ?_)
                refine S.val hf hs (v := .bool true) rfl rfl rfl (V.pure rfl) (fun a hf => ?_)
                refine S.val hf hs (v := .int .u8 (x1.toNat : Int)) rfl rfl rfl (V.pure rfl) (fun a hf => ?_)
                refine S.callv hf rfl rfl rfl (call_fn (vs := [.string (ba [95, 43, 45, 35]), .int .u8 (x1.toNat : Int)]) rfl rfl rfl Try.call24) (C_strings_IndexByte [95, 43, 45, 35] (x1.toNat : Int) _ ) (fun a w hf hs' => ?_)
                replace hs := hs.call hs'; clear hs'
                refine S.val hf hs (v := .bool (decide ((byteAt [95, 43, 45, 35] (x1.toNat : Int)) < 0))) rfl rfl rfl (V.pure rfl) (fun a hf => ?_)
                refine S.val hf hs (v := .bool (decide ((byteAt [95, 43, 45, 35] (x1.toNat : Int)) < 0))) rfl rfl rfl (V.pure rfl) (fun a hf => ?_)
                refine R.nil ?_
                refine X.then_ ?_
                exact ⟨(decide ((byteAt [95, 43, 45, 35] (x1.toNat : Int)) < 0)), h, ((((hf.nil.cons (hf.get 39 _ rfl)).cons (hf.get 7 _ rfl)).cons (hf.get 6 _ rfl)).cons (hf.get 0 _ rfl)), hs⟩
              · replace h := h.2 hc
                refine S.val hf hs (v := .int .u8 (x1.toNat : Int)) rfl rfl rfl (V.pure rfl) (fun a hf => ?_)
                refine S.val hf hs (v := .bool (decide ((x1.toNat : Int) > 57))) rfl rfl rfl (V.pure rfl) (fun a hf => ?_)
                refine S.val hf hs (v := .bool (decide ((x1.toNat : Int) > 57))) rfl rfl rfl (V.pure rfl) (fun a hf => ?_)
                refine S.val hf hs (v := .bool (decide ((x1.toNat : Int) > 57))) rfl rfl rfl (V.pure rfl) (fun a hf => ?_)
                refine S.split hf hs (b := decide ((x1.toNat : Int) > 57)) rfl rfl rfl (V.pure rfl) (fun hc a hf => ?_) (fun hc a hf => ?_)
                · replace h := h.1 hc
                  refine S.val hf hs (v := .int .u8 (x1.toNat : Int)) rfl rfl rfl (V.pure rfl) (fun a hf => ?_)
                  refine S.callv hf rfl rfl rfl (call_fn (vs := [.string (ba [95, 43, 45, 35]), .int .u8 (x1.toNat : Int)]) rfl rfl rfl Try.call24) (C_strings_IndexByte [95, 43, 45, 35] (x1.toNat : Int) _ ) (fun a w hf hs' => ?_)
                  replace hs := hs.call hs'; clear hs'
                  refine S.val hf hs (v := .bool (decide ((byteAt [95, 43, 45, 35] (x1.toNat : Int)) < 0))) rfl rfl rfl (V.pure rfl) (fun a hf => ?_)
                  refine S.val hf hs (v := .bool (decide ((byteAt [95, 43, 45, 35] (x1.toNat : Int)) < 0))) rfl rfl rfl (V.pure rfl) (fun a hf => ?_)
                  refine R.nil ?_
                  refine X.then_ ?_
                  exact ⟨(decide ((byteAt [95, 43, 45, 35] (x1.toNat : Int)) < 0)), h, ((((hf.nil.cons (hf.get 39 _ rfl)).cons (hf.get 7 _ rfl)).cons (hf.get 6 _ rfl)).cons (hf.get 0 _ rfl)), hs⟩
                · replace h := h.2 hc
                  refine S.skip hf rfl rfl rfl (fun a hf => ?_)
                  refine S.skip hf rfl rfl rfl (fun a hf => ?_)
                  refine S.skip hf rfl rfl rfl (fun a hf => ?_)
                  refine S.val hf hs (v := .bool false) rfl rfl rfl (V.pure rfl) (fun a hf => ?_)
                  refine R.nil ?_
                  refine X.then_ ?_
                  exact ⟨false, h, ((((hf.nil.cons (hf.get 39 _ rfl)).cons (hf.get 7 _ rfl)).cons (hf.get 6 _ rfl)).cons (hf.get 0 _ rfl)), hs⟩
            · replace h := h.2 hc
              refine S.skip hf rfl rfl rfl (fun a hf => ?_)
              refine S.skip hf rfl rfl rfl (fun a hf => ?_)
              refine S.skip hf rfl rfl rfl (fun a hf => ?_)
              refine S.skip hf rfl rfl rfl (fun a hf => ?_)
              refine S.skip hf rfl rfl rfl (fun a hf => ?_)
              refine S.skip hf rfl rfl rfl (fun a hf => ?_)
              refine S.val hf hs (v := .bool false) rfl rfl rfl (V.pure rfl) (fun a hf => ?_)
              refine S.val hf hs (v := .bool false) rfl rfl rfl (V.pure rfl) (fun a hf => ?_)
              refine S.skip hf rfl rfl rfl (fun a hf => ?_)
              refine S.skip hf rfl rfl rfl (fun a hf => ?_)
              refine S.skip hf rfl rfl rfl (fun a hf => ?_)
              refine S.val hf hs (v := .bool false) rfl rfl rfl (V.pure rfl) (fun a hf => ?_)
              refine R.nil ?_
              refine X.then_ ?_
              exact ⟨false, h, ((((hf.nil.cons (hf.get 39 _ rfl)).cons (hf.get 7 _ rfl)).cons (hf.get 6 _ rfl)).cons (hf.get 0 _ rfl)), hs⟩
        · replace h := h.2 hc
          refine S.skip hf rfl rfl rfl (fun a hf => ?_)
          refine S.skip hf rfl rfl rfl (fun a hf => ?_)
          refine S.skip hf rfl rfl rfl (fun a hf => ?_)
          refine S.skip hf rfl rfl rfl (fun a hf => ?_)
          refine S.skip hf rfl rfl rfl (fun a hf => ?_)
          refine S.skip hf rfl rfl rfl (fun a hf => ?_)
          refine S.val hf hs (v := .bool false) rfl rfl rfl (V.pure rfl) (fun a hf => ?_)
          refine S.val hf hs (v := .bool false) rfl rfl rfl (V.pure rfl) (fun a hf => ?_)
          refine S.skip hf rfl rfl rfl (fun a hf => ?_)
          refine S.skip hf rfl rfl rfl (fun a hf => ?_)
          refine S.skip hf rfl rfl rfl (fun a hf => ?_)
          refine S.skip hf rfl rfl rfl (fun a hf => ?_)
          refine S.skip hf rfl rfl rfl (fun a hf => ?_)
          refine S.skip hf rfl rfl rfl (fun a hf => ?_)
          refine S.val hf hs (v := .bool false) rfl rfl rfl (V.pure rfl) (fun a hf => ?_)
          refine S.val hf hs (v := .bool false) rfl rfl rfl (V.pure rfl) (fun a hf => ?_)
          refine S.skip hf rfl rfl rfl (fun a hf => ?_)
          refine S.skip hf rfl rfl rfl (fun a hf => ?_)
          refine S.skip hf rfl rfl rfl (fun a hf => ?_)
          refine S.val hf hs (v := .bool false) rfl rfl rfl (V.pure rfl) (fun a hf => ?_)
          refine R.nil ?_
          refine X.then_ ?_
          exact ⟨false, h, ((((hf.nil.cons (hf.get 39 _ rfl)).cons (hf.get 7 _ rfl)).cons (hf.get 6 _ rfl)).cons (hf.get 0 _ rfl)), hs⟩
  · replace h := h.2 hc
    refine wp_exit ?_
    refine X.then_exit ?_
    refine X.then_exit ?_
    refine X.blk_exit ?_
    refine X.then_ ?_
    refine wp_seq ?_
    refine R.list ?_
    refine S.val hf hs (v := .string (ba s_)) rfl rfl rfl (V.pure rfl) (fun a hf => ?_)
    refine S.val hf hs (v := .int .i64 (s_.length : Int)) rfl rfl rfl (V.lenStr rfl rfl Try.runUnderlying9) (fun a hf => ?_)
    refine S.val hf hs (v := .bool (decide ((s_.length : Int) ≥ 1))) rfl rfl rfl (V.pure rfl) (fun a hf => ?_)
    refine S.split hf hs (b := decide ((s_.length : Int) ≥ 1)) rfl rfl rfl (V.pure rfl) (fun hc a hf => ?_) (fun hc a hf => ?_)
    · replace h := h.1 hc
      refine S.val hf hs (v := .string (ba s_)) rfl rfl rfl (V.pure rfl) (fun a hf => ?_)
      refine S.val hf hs (v := .int .i64 (s_.length : Int)) rfl rfl rfl (V.lenStr rfl rfl Try.runUnderlying9) (fun a hf => ?_)
      refine S.val hf hs (v := .bool (decide ((s_.length : Int) ≤ 40))) rfl rfl rfl (V.pure rfl) (fun a hf => ?_)
      refine S.val hf hs (v := .bool (decide ((s_.length : Int) ≤ 40))) rfl rfl rfl (V.pure rfl) (fun a hf => ?_)
      refine S.val hf hs (v := .bool (decide ((s_.length : Int) ≤ 40))) rfl rfl rfl (V.pure rfl) (fun a hf => ?_)
      refine R.nil ?_
      refine X.then_ ?_
      refine wp_ret ?_
      exact L.ret hf (run_results1 Try.results18 (ResIs.tmp hf rfl)) ⟨(decide ((s_.length : Int) ≤ 40)), rfl, h, hs.nil⟩
    · replace h := h.2 hc
      refine S.skip hf rfl rfl rfl (fun a hf => ?_)
      refine S.skip hf rfl rfl rfl (fun a hf => ?_)
      refine S.skip hf rfl rfl rfl (fun a hf => ?_)
      refine S.val hf hs (v := .bool false) rfl rfl rfl (V.pure rfl) (fun a hf => ?_)
      refine S.val hf hs (v := .bool false) rfl rfl rfl (V.pure rfl) (fun a hf => ?_)
      refine R.nil ?_
      refine X.then_ ?_
      refine wp_ret ?_
      exact L.ret hf (run_results1 Try.results18 (ResIs.tmp hf rfl)) ⟨false, rfl, h, hs.nil⟩

set_option linter.unusedVariables false
def M_ref8_isWord_k2 (Q : Bool → Prop) (n2 : Int) (again1 : Int → Prop) (c1 : Bool) : Prop :=
  cnd c1 (Q false) (again1 (w64 (n2 + 1)))
def M_ref8_isWord_L1 (s_ : Str) (Q : Bool → Prop) (again1 : Int → Prop) (n2 : Int) : Prop :=
  cnd (decide (n2 < (s_.length : Int))) (idx s_ n2 fun x1 => cnd (decide ((x1.toNat : Int) < 97)) (cnd (decide ((x1.toNat : Int) < 65)) (cnd (decide ((x1.toNat : Int) < 48)) (M_ref8_isWord_k2 Q n2 again1 (decide ((byteAt [95, 43, 45, 35] (x1.toNat : Int)) < 0))) (cnd (decide ((x1.toNat : Int) > 57)) (M_ref8_isWord_k2 Q n2 again1 (decide ((byteAt [95, 43, 45, 35] (x1.toNat : Int)) < 0))) (M_ref8_isWord_k2 Q n2 again1 false))) (cnd (decide ((x1.toNat : Int) > 90)) (cnd (decide ((x1.toNat : Int) < 48)) (M_ref8_isWord_k2 Q n2 again1 (decide ((byteAt [95, 43, 45, 35] (x1.toNat : Int)) < 0))) (cnd (decide ((x1.toNat : Int) > 57)) (M_ref8_isWord_k2 Q n2 again1 (decide ((byteAt [95, 43, 45, 35] (x1.toNat : Int)) < 0))) (M_ref8_isWord_k2 Q n2 again1 false))) (M_ref8_isWord_k2 Q n2 again1 false))) (cnd (decide ((x1.toNat : Int) > 122)) (cnd (decide ((x1.toNat : Int) < 65)) (cnd (decide ((x1.toNat : Int) < 48)) (M_ref8_isWord_k2 Q n2 again1 (decide ((byteAt [95, 43, 45, 35] (x1.toNat : Int)) < 0))) (cnd (decide ((x1.toNat : Int) > 57)) (M_ref8_isWord_k2 Q n2 again1 (decide ((byteAt [95, 43, 45, 35] (x1.toNat : Int)) < 0))) (M_ref8_isWord_k2 Q n2 again1 false))) (cnd (decide ((x1.toNat : Int) > 90)) (cnd (decide ((x1.toNat : Int) < 48)) (M_ref8_isWord_k2 Q n2 again1 (decide ((byteAt [95, 43, 45, 35] (x1.toNat : Int)) < 0))) (cnd (decide ((x1.toNat : Int) > 57)) (M_ref8_isWord_k2 Q n2 again1 (decide ((byteAt [95, 43, 45, 35] (x1.toNat : Int)) < 0))) (M_ref8_isWord_k2 Q n2 again1 false))) (M_ref8_isWord_k2 Q n2 again1 false))) (M_ref8_isWord_k2 Q n2 again1 false))) (Q (within (s_.length : Int) 1 40))
def M_ref8_isWord (s_ : Str) (Q : Bool → Prop) : Prop :=
  lp (fun again (s : Int) => M_ref8_isWord_L1 s_ Q (fun n2 => again n2) s) 0
set_option maxHeartbeats 1000000 in
theorem R_ref8_isWord (s_ : Str) (w0 : World)  (Q : Bool → Prop) (h : M_ref8_isWord s_ Q) :
    Ret Try.prog 19 #[.string (ba s_)] w0 fun v w' => ∃ (r0 : Bool), v = .bool r0 ∧ Q r0 ∧ Sat w0 none_ [] w' := by
  refine fn_enter Try.func19 rfl Try.ntmps19 rfl (fs := [(0, .string (ba s_))]) rfl (fun a hf => ?_)
  have hs := Sat.start w0 none_
  unfold M_ref8_isWord at h
  refine wp_seq ?_
  refine R.list ?_
  refine S.val hf hs (v := .bool false) rfl rfl rfl (V.pure rfl) (fun a hf => ?_)
  refine R.nil ?_
  refine X.then_ ?_
  refine wp_seq ?_
  refine wp_seq ?_
  refine R.list ?_
  refine S.val hf hs (v := .string (ba s_)) rfl rfl rfl (V.pure rfl) (fun a hf => ?_)
  refine S.val hf hs (v := .int .i64 (s_.length : Int)) rfl rfl rfl (V.lenStr rfl rfl Try.runUnderlying9) (fun a hf => ?_)
  refine S.val hf hs (v := .int .i64 0) rfl rfl rfl (V.pure rfl) (fun a hf => ?_)
  refine R.nil ?_
  refine X.then_ ?_
  refine wp_block ?_
  obtain ⟨kk, h⟩ := h
  refine C.loop (fun kk a w => ∃ (n2 : Int), iterF (fun again (s : Int) => M_ref8_isWord_L1 s_ Q (fun n2 => again n2) s) kk n2 ∧ FrOk 44 [(0, .string (ba s_)), (6, .int .i64 (s_.length : Int)), (7, .int .i64 n2)] a ∧ Sat w0 none_ [] w) kk ⟨0, h, (((hf.nil.cons (hf.get 7 _ rfl)).cons (hf.get 6 _ rfl)).cons (hf.get 0 _ rfl)), hs⟩ (fun a w ⟨_, h, _, _⟩ => h) ?_
  clear h hf hs
  rintro kk a w ⟨n2, h, hf, hs⟩
  obtain ⟨again1, hagain1⟩ : ∃ X : Int → Prop, X = (fun n2 => iterF (fun again (s : Int) => M_ref8_isWord_L1 s_ Q (fun n2 => again n2) s) kk n2) := ⟨_, rfl⟩
  replace h : M_ref8_isWord_L1 s_ Q again1 n2 := by rw [hagain1]; exact h
  unfold M_ref8_isWord_L1 at h
  refine wp_seq ?_
  refine R.list ?_
  refine S.val hf hs (v := .bool (decide (n2 < (s_.length : Int)))) rfl rfl rfl (V.pure rfl) (fun a hf => ?_)
  refine R.nil ?_
  refine X.then_ ?_
  refine wp_seq ?_
  refine C.cond hf (b := decide (n2 < (s_.length : Int))) rfl (fun hc => ?_) (fun hc => ?_)
  · replace h := h.1 hc
    refine wp_skip ?_
    refine X.then_ ?_
    refine wp_seq ?_
    refine wp_block ?_
    refine wp_seq ?_
    refine R.list ?_
    refine S.val hf hs (v := .int .i64 n2) rfl rfl rfl (V.pure rfl) (fun a hf => ?_)
    refine S.val hf hs (v := .int .i64 n2) rfl rfl rfl (V.pure rfl) (fun a hf => ?_)
    refine R.nil ?_
    refine X.then_ ?_
    refine wp_seq ?_
    refine R.list ?_
    refine S.val hf hs (v := .string (ba s_)) rfl rfl rfl (V.pure rfl) (fun a hf => ?_)
    refine S.val hf hs (v := .int .i64 n2) rfl rfl rfl (V.pure rfl) (fun a hf => ?_)
    obtain ⟨h0x1, x1, hx1, h⟩ := h
    refine S.val hf hs (v := .int .u8 (x1.toNat : Int)) rfl rfl rfl (V.indexStr rfl rfl rfl Try.runUnderlying9 h0x1 hx1) (fun a hf => ?_)
    refine S.val hf hs (v := .int .u8 (x1.toNat : Int)) rfl rfl rfl (V.pure rfl) (fun a hf => ?_)
    refine R.nil ?_
    refine X.then_ ?_
    refine wp_seq ?_
    refine C.cut (J := fun a w => ∃ (c1 : Bool), M_ref8_isWord_k2 Q n2 again1 c1 ∧ FrOk 44 [(0, .string (ba s_)), (6, .int .i64 (s_.length : Int)), (7, .int .i64 n2), (39, .bool c1)] a ∧ Sat w0 none_ [] w) ?_ ?_
    · rintro a w ⟨c1, h, hf, hs⟩
      unfold M_ref8_isWord_k2 at h
      refine C.cond hf (b := c1) rfl (fun hc => ?_) (fun hc => ?_)
      · replace h := h.1 hc
        refine wp_seq ?_
        refine R.list ?_
        refine S.val hf hs (v := .bool false) rfl rfl rfl (V.pure rfl) (fun a hf => ?_)
        refine R.nil ?_
        refine X.then_ ?_
        refine wp_ret ?_
        refine X.blk_ret ?_
        refine X.then_ret ?_
        refine X.then_ret ?_
        refine X.blk_ret ?_
        refine X.then_ret ?_
        exact L.ret hf (run_results1 Try.results19 (ResIs.tmp hf rfl)) ⟨false, rfl, h, hs.nil⟩
      · replace h := h.2 hc
        refine wp_skip ?_
        refine X.blk ?_
        refine X.then_ ?_
        refine R.list ?_
        refine S.val hf hs (v := .int .i64 (w64 (n2 + 1))) rfl rfl rfl (V.pure rfl) (fun a hf => ?_)
        refine S.val hf hs (v := .int .i64 (w64 (n2 + 1))) rfl rfl rfl (V.pure rfl) (fun a hf => ?_)
        refine R.nil ?_
        refine X.then_ ?_
        exact ⟨(w64 (n2 + 1)), (by rw [hagain1] at h; exact h), (((hf.nil.cons (hf.get 7 _ rfl)).cons (hf.get 6 _ rfl)).cons (hf.get 0 _ rfl)), hs⟩
    · skip
      refine R.list ?_
      refine S.val hf hs (v := .int .u8 (x1.toNat : Int)) rfl rfl rfl (V.pure rfl) (fun a hf => ?_)
      refine S.val hf hs (v := .bool (decide ((x1.toNat : Int) < 97))) rfl rfl rfl (V.pure rfl) (fun a hf => ?_)
      refine S.split hf hs (b := decide ((x1.toNat : Int) < 97)) rfl rfl rfl (V.pure rfl) (fun hc a hf => ?_) (fun hc a hf => ?_)
      · replace h := h.1 hc
        refine S.skip hf rfl rfl rfl (fun a hf => ?_)
        refine S.skip hf rfl rfl rfl (fun a hf => ?_)
        refine S.val hf hs (v := .bool true) rfl rfl rfl (V.pure rfl) (fun a hf => ?_)
        refine S.val hf hs (v := .bool true) rfl rfl rfl (V.pure rfl) (fun a hf => ?_)
        refine S.val hf hs (v := .int .u8 (x1.toNat : Int)) rfl rfl rfl (V.pure rfl) (fun a hf => ?_)
        refine S.val hf hs (v := .bool (decide ((x1.toNat : Int) < 65))) rfl rfl rfl (V.pure rfl) (fun a hf => ?_)
        refine S.split hf hs (b := decide ((x1.toNat : Int) < 65)) rfl rfl rfl (V.pure rfl) (fun hc a hf => ?_) (fun hc a hf => ?_)
        · replace h := h.1 hc
          refine S.skip hf rfl rfl rfl (fun a hf => ?_)
          refine S.skip hf rfl rfl rfl (fun a hf => ?_)
          refine S.val hf hs (v := .bool true) rfl rfl rfl (V.pure rfl) (fun a hf => ?_)
          refine S.val hf hs (v := .bool true) rfl rfl rfl (V.pure rfl) (fun a hf => ?_)
          refine S.val hf hs (v := .bool true) rfl rfl rfl (V.pure rfl) (fun a hf => ?_)
          refine S.val hf hs (v := .int .u8 (x1.toNat : Int)) rfl rfl rfl (V.pure rfl) (fun a hf => ?_)
          refine S.val hf hs (v := .bool (decide ((x1.toNat : Int) < 48))) rfl rfl rfl (V.pure rfl) (fun a hf => ?_)
          refine S.split hf hs (b := decide ((x1.toNat : Int) < 48)) rfl rfl rfl (V.pure rfl) (fun hc a hf => ?_) (fun hc a hf => ?_)
          · replace h := h.1 hc
            refine S.skip hf rfl rfl rfl (fun a hf => ?_)
            refine S.skip hf rfl rfl rfl (fun a hf => ?_)
            refine S.val hf hs (v := .bool true) rfl rfl rfl (V.pure rfl) (fun a hf => ?_)
            refine S.val hf hs (v := .bool true) rfl rfl rfl (V.pure rfl) (fun a hf => ?_)
            refine S.val hf hs (v := .bool true) rfl rfl rfl (V.pure rfl) (fun a hf => ?_)
            refine S.val hf hs (v := .int .u8 (x1.toNat : Int)) rfl rfl rfl (V.pure rfl) (fun a hf => ?_)
            refine S.callv hf rfl rfl rfl (call_fn (vs := [.string (ba [95, 43, 45, 35]), .int .u8 (x1.toNat : Int)]) rfl rfl rfl Try.call24) (C_strings_IndexByte [95, 43, 45, 35] (x1.toNat : Int) _ ) (fun a w hf hs' => ?_)
            replace hs := hs.call hs'; clear hs'
            refine S.val hf hs (v := .bool (decide ((byteAt [95, 43, 45, 35] (x1.toNat : Int)) < 0))) rfl rfl rfl (V.pure rfl) (fun a hf => ?_)
            refine S.val hf hs (v := .bool (decide ((byteAt [95, 43, 45, 35] (x1.toNat : Int)) < 0))) rfl rfl rfl (V.pure rfl) (fun a hf => ?_)
            refine R.nil ?_
            refine X.then_ ?_
            exact ⟨(decide ((byteAt [95, 43, 45, 35] (x1.toNat : Int)) < 0)), h, ((((hf.nil.cons (hf.get 39 _ rfl)).cons (hf.get 7 _ rfl)).cons (hf.get 6 _ rfl)).cons (hf.get 0 _ rfl)), hs⟩
          · replace h := h.2 hc
            refine S.val hf hs (v := .int .u8 (x1.toNat : Int)) rfl rfl rfl (V.pure rfl) (fun a hf => ?_)
            refine S.val hf hs (v := .bool (decide ((x1.toNat : Int) > 57))) rfl rfl rfl (V.pure rfl) (fun a hf => ?_)
            refine S.val hf hs (v := .bool (decide ((x1.toNat : Int) > 57))) rfl rfl rfl (V.pure rfl) (fun a hf => ?_)
            refine S.val hf hs (v := .bool (decide ((x1.toNat : Int) > 57))) rfl rfl rfl (V.pure rfl) (fun a hf => ?_)
            refine S.split hf hs (b := decide ((x1.toNat : Int) > 57)) rfl rfl rfl (V.pure rfl) (fun hc a hf => ?_) (fun hc a hf => ?_)
            · replace h := h.1 hc
              refine S.val hf hs (v := .int .u8 (x1.toNat : Int)) rfl rfl rfl (V.pure rfl) (fun a hf => ?_)
              refine S.callv hf rfl rfl rfl (call_fn (vs := [.string (ba [95, 43, 45, 35]), .int .u8 (x1.toNat : Int)]) rfl rfl rfl Try.call24) (C_strings_IndexByte [95, 43, 45, 35] (x1.toNat : Int) _ ) (fun a w hf hs' => ?_)
              replace hs := hs.call hs'; clear hs'
              refine S.val hf hs (v := .bool (decide ((byteAt [95, 43, 45, 35] (x1.toNat : Int)) < 0))) rfl rfl rfl (V.pure rfl) (fun a hf => ?_)
              refine S.val hf hs (v := .bool (decide ((byteAt [95, 43, 45, 35] (x1.toNat : Int)) < 0))) rfl rfl rfl (V.pure rfl) (fun a hf => ?_)
              refine R.nil ?_
              refine X.then_ ?_
              exact ⟨(decide ((byteAt [95, 43, 45, 35] (x1.toNat : Int)) < 0)), h, ((((hf.nil.cons (hf.get 39 _ rfl)).cons (hf.get 7 _ rfl)).cons (hf.get 6 _ rfl)).cons (hf.get 0 _ rfl)), hs⟩
            · replace h := h.2 hc
              refine S.skip hf rfl rfl rfl (fun a hf => ?_)
              refine S.skip hf rfl rfl rfl (fun a hf => ?_)
              refine S.skip hf rfl rfl rfl (fun a hf => ?_)
              refine S.val hf hs (v := .bool false) rfl rfl rfl (V.pure rfl) (fun a hf => ?_)
              refine R.nil ?_
              refine X.then_ ?_
              exact ⟨false, h, ((((hf.nil.cons (hf.get 39 _ rfl)).cons (hf.get 7 _ rfl)).cons (hf.get 6 _ rfl)).cons (hf.get 0 _ rfl)), hs⟩
        · replace h := h.2 hc
          refine S.val hf hs (v := .int .u8 (x1.toNat : Int)) rfl rfl rfl (V.pure rfl) (fun a hf => ?_)
          refine S.val hf hs (v := .bool (decide ((x1.toNat : Int) > 90))) rfl rfl rfl (V.pure rfl) (fun a hf => ?_)
          refine S.val hf hs (v := .bool (decide ((x1.toNat : Int) > 90))) rfl rfl rfl (V.pure rfl) (fun a hf => ?_)
          refine S.val hf hs (v := .bool (decide ((x1.toNat : Int) > 90))) rfl rfl rfl (V.pure rfl) (fun a hf => ?_)
          refine S.split hf hs (b := decide ((x1.toNat : Int) > 90)) rfl rfl rfl (V.pure rfl) (fun hc a hf => ?_) (fun hc a hf => ?_)
          · replace h := h.1 hc
            refine S.val hf hs (v := .int .u8 (x1.toNat : Int)) rfl rfl rfl (V.pure rfl) (fun a hf => ?_)
            refine S.val hf hs (v := .bool (decide ((x1.toNat : Int) < 48))) rfl rfl rfl (V.pure rfl) (fun a hf => ?_)
            refine S.split hf hs (b := decide ((x1.toNat : Int) < 48)) rfl rfl rfl (V.pure rfl) (fun hc a hf => ?_) (fun hc a hf => ?_)
            · replace h := h.1 hc
              refine S.skip hf rfl rfl rfl (fun a hf => ?_)
              refine S.skip hf rfl rfl rfl (fun a hf => ?_)
              refine S.val hf hs (v := .bool true) rfl rfl rfl (V.pure rfl) (fun a hf => ?_)
              refine S.val hf hs (v := .bool true) rfl rfl rfl (V.pure rfl) (fun a hf => ?_)
              refine S.val hf hs (v := .bool true) rfl rfl rfl (V.pure rfl) (fun a hf => ?_)
              refine S.val hf hs (v := .int .u8 (x1.toNat : Int)) rfl rfl rfl (V.pure rfl) (fun a hf => ?_)
              refine S.callv hf rfl rfl rfl (call_fn (vs := [.string (ba [95, 43, 45, 35]), .int .u8 (x1.toNat : Int)]) rfl rfl rfl Try.call24) (C_strings_IndexByte [95, 43, 45, 35] (x1.toNat : Int) _ ) (fun a w hf hs' => ?_)
              replace hs := hs.call hs'; clear hs'
              refine S.val hf hs (v := .bool (decide ((byteAt [95, 43, 45, 35] (x1.toNat : Int)) < 0))) rfl rfl rfl (V.pure rfl) (fun a hf => ?_)
              refine S.val hf hs (v := .bool (decide ((byteAt [95, 43, 45, 35] (x1.toNat : Int)) < 0))) rfl rfl rfl (V.pure rfl) (fun a hf => ?_)
              refine R.nil ?_
              refine X.then_ ?_
              exact ⟨(decide ((byteAt [95, 43, 45, 35] (x1.toNat : Int)) < 0)), h, ((((hf.nil.cons (hf.get 39 _ rfl)).cons (hf.get 7 _ rfl)).cons (hf.get 6 _ rfl)).cons (hf.get 0 _ rfl)), hs⟩
            · replace h := h.2 hc
              refine S.val hf hs (v := .int .u8 (x1.toNat : Int)) rfl rfl rfl (V.pure rfl) (fun a hf => ?_)
              refine S.val hf hs (v := .bool (decide ((x1.toNat : Int) > 57))) rfl rfl rfl (V.pure rfl) (fun a hf => ?_)
              refine S.val hf hs (v := .bool (decide ((x1.toNat : Int) > 57))) rfl rfl rfl (V.pure rfl) (fun a hf => ?_)
              refine S.val hf hs (v := .bool (decide ((x1.toNat : Int) > 57))) rfl rfl rfl (V.pure rfl) (fun a hf => ?_)
              refine S.split hf hs (b := decide ((x1.toNat : Int) > 57)) rfl rfl rfl (V.pure rfl) (fun hc a hf => ?_) (fun hc a hf => ?_)
              · replace h := h.1 hc
                refine S.val hf hs (v := .int .u8 (x1.toNat : Int)) rfl rfl rfl (V.pure rfl) (fun a hf => ?_)
                refine S.callv hf rfl rfl rfl (call_fn (vs := [.string (ba [95, 43, 45, 35]), .int .u8 (x1.toNat : Int)]) rfl rfl rfl Try.call24) (C_strings_IndexByte [95, 43, 45, 35] (x1.toNat : Int) _ ) (fun a w hf hs' => ?_)
                replace hs := hs.call hs'; clear hs'
                refine S.val hf hs (v := .bool (decide ((byteAt [95, 43, 45, 35] (x1.toNat : Int)) < 0))) rfl rfl rfl (V.pure rfl) (fun a hf => ?_)
                refine S.val hf hs (v := .bool (decide ((byteAt [95, 43, 45, 35] (x1.toNat : Int)) < 0))) rfl rfl rfl (V.pure rfl) (fun a hf => ?_)
                refine R.nil ?_
                refine X.then_ ?_
                exact ⟨(decide ((byteAt [95, 43, 45, 35] (x1.toNat : Int)) < 0)), h, ((((hf.nil.cons (hf.get 39 _ rfl)).cons (hf.get 7 _ rfl)).cons (hf.get 6 _ rfl)).cons (hf.get 0 _ rfl)), hs⟩
              · replace h := h.2 hc
                refine S.skip hf rfl rfl rfl (fun a hf => ?_)
                refine S.skip hf rfl rfl rfl (fun a hf => ?_)
                refine S.skip hf rfl rfl rfl (fun a hf => ?_)
                refine S.val hf hs (v := .bool false) rfl rfl rfl (V.pure rfl) (fun a hf => ?_)
                refine R.nil ?_
                refine X.then_ ?_
                exact ⟨false, h, ((((hf.nil.cons (hf.get 39 _ rfl)).cons (hf.get 7 _ rfl)).cons (hf.get 6 _ rfl)).cons (hf.get 0 _ rfl)), hs⟩
          · replace h := h.2 hc
            refine S.skip hf rfl rfl rfl (fun a hf => ?_)
            refine S.skip hf rfl rfl rfl (fun a hf => ?_)
            refine S.skip hf rfl rfl rfl (fun a hf => ?_)
            refine S.skip hf rfl rfl rfl (fun a hf => ?_)
            refine S.skip hf rfl rfl rfl (fun a hf => ?_)
            refine S.skip hf rfl rfl rfl (fun a hf => ?_)
            refine S.val hf hs (v := .bool false) rfl rfl rfl (V.pure rfl) (fun a hf => ?_)
            refine S.val hf hs (v := .bool false) rfl rfl rfl (V.pure rfl) (fun a hf => ?_)
            refine S.skip hf rfl rfl rfl (fun a hf => ?_)
            refine S.skip hf rfl rfl rfl (fun a hf => ?_)
            refine S.skip hf rfl rfl rfl (fun a hf => ?_)
            refine S.val hf hs (v := .bool false) rfl rfl rfl (V.pure rfl) (fun a hf => ?_)
            refine R.nil ?_
            refine X.then_ ?_
            exact ⟨false, h, ((((hf.nil.cons (hf.get 39 _ rfl)).cons (hf.get 7 _ rfl)).cons (hf.get 6 _ rfl)).cons (hf.get 0 _ rfl)), hs⟩
      · replace h := h.2 hc
        refine S.val hf hs (v := .int .u8 (x1.toNat : Int)) rfl rfl rfl (V.pure rfl) (fun a hf => ?_)
        refine S.val hf hs (v := .bool (decide ((x1.toNat : Int) > 122))) rfl rfl rfl (V.pure rfl) (fun a hf => ?_)
        refine S.val hf hs (v := .bool (decide ((x1.toNat : Int) > 122))) rfl rfl rfl (V.pure rfl) (fun a hf => ?_)
        refine S.split hf hs (b := decide ((x1.toNat : Int) > 122)) rfl rfl rfl (V.pure rfl) (fun hc a hf => ?_) (fun hc a hf => ?_)
        · replace h := h.1 hc
          refine S.val hf hs (v := .int .u8 (x1.toNat : Int)) rfl rfl rfl (V.pure rfl) (fun a hf => ?_)
          refine S.val hf hs (v := .bool (decide ((x1.toNat : Int) < 65))) rfl rfl rfl (V.pure rfl) (fun a hf => ?_)
          refine S.split hf hs (b := decide ((x1.toNat : Int) < 65)) rfl rfl rfl (V.pure rfl) (fun hc a hf => ?_) (fun hc a hf => ?_)
          · replace h := h.1 hc
            refine S.skip hf rfl rfl rfl (fun a hf => ?_)
            refine S.skip hf rfl rfl rfl (fun a hf => ?_)
            refine S.val hf hs (v := .bool true) rfl rfl rfl (V.pure rfl) (fun a hf => ?_)
            refine S.val hf hs (v := .bool true) rfl rfl rfl (V.pure rfl) (fun a hf => ?_)
            refine S.val hf hs (v := .bool true) rfl rfl rfl (V.pure rfl) (fun a hf => ?_)
            refine S.val hf hs (v := .int .u8 (x1.toNat : Int)) rfl rfl rfl (V.pure rfl) (fun a hf => ?_)
            refine S.val hf hs (v := .bool (decide ((x1.toNat : Int) < 48))) rfl rfl rfl (V.pure rfl) (fun a hf => ?_)
            refine S.split hf hs (b := decide ((x1.toNat : Int) < 48)) rfl rfl rfl (V.pure rfl) (fun hc a hf => ?_) (fun hc a hf => ?_)
            · replace h := h.1 hc
              refine S.skip hf rfl rfl rfl (fun a hf => ?_)
              refine S.skip hf rfl rfl rfl (fun a hf => ?_)
              refine S.val hf hs (v := .bool true) rfl rfl rfl (V.pure rfl) (fun a hf => ?_)
              refine S.val hf hs (v := .bool true) rfl rfl rfl (V.pure rfl) (fun a hf => ?_)
              refine S.val hf hs (v := .bool true) rfl rfl rfl (V.pure rfl) (fun a hf => ?_)
              refine S.val hf hs (v := .int .u8 (x1.toNat : Int)) rfl rfl rfl (V.pure rfl) (fun a hf => ?_)
              refine S.callv hf rfl rfl rfl (call_fn (vs := [.string (ba [95, 43, 45, 35]), .int .u8 (x1.toNat : Int)]) rfl rfl rfl Try.call24) (C_strings_IndexByte [95, 43, 45, 35] (x1.toNat : Int) _ ) (fun a w hf hs' => ?_)
              replace hs := hs.call hs'; clear hs'
              refine S.val hf hs (v := .bool (decide ((byteAt [95, 43, 45, 35] (x1.toNat : Int)) < 0))) rfl rfl rfl (V.pure rfl) (fun a hf => ?_)
              refine S.val hf hs (v := .bool (decide ((byteAt [95, 43, 45, 35] (x1.toNat : Int)) < 0))) rfl rfl rfl (V.pure rfl) (fun a hf => ?_)
              refine R.nil ?_
              refine X.then_ ?_
              exact ⟨(decide ((byteAt [95, 43, 45, 35] (x1.toNat : Int)) < 0)), h, ((((hf.nil.cons (hf.get 39 _ rfl)).cons (hf.get 7 _ rfl)).cons (hf.get 6 _ rfl)).cons (hf.get 0 _ rfl)), hs⟩
            · replace h := h.2 hc
              refine S.val hf hs (v := .int .u8 (x1.toNat : Int)) rfl rfl rfl (V.pure rfl) (fun a hf => ?_)
              refine S.val hf hs (v := .bool (decide ((x1.toNat : Int) > 57))) rfl rfl rfl (V.pure rfl) (fun a hf => ?_)
              refine S.val hf hs (v := .bool (decide ((x1.toNat : Int) > 57))) rfl rfl rfl (V.pure rfl) (fun a hf => ?_)
              refine S.val hf hs (v := .bool (decide ((x1.toNat : Int) > 57))) rfl rfl rfl (V.pure rfl) (fun a hf => ?_)
              refine S.split hf hs (b := decide ((x1.toNat : Int) > 57)) rfl rfl rfl (V.pure rfl) (fun hc a hf => ?_) (fun hc a hf => ?_)
              · replace h := h.1 hc
                refine S.val hf hs (v := .int .u8 (x1.toNat : Int)) rfl rfl rfl (V.pure rfl) (fun a hf => ?_)
                refine S.callv hf rfl rfl rfl (call_fn (vs := [.string (ba [95, 43, 45, 35]), .int .u8 (x1.toNat : Int)]) rfl rfl rfl Try.call24) (C_strings_IndexByte [95, 43, 45, 35] (x1.toNat : Int) _ ) (fun a w hf hs' => ?_)
                replace hs := hs.call hs'; clear hs'
                refine S.val hf hs (v := .bool (decide ((byteAt [95, 43, 45, 35] (x1.toNat : Int)) < 0))) rfl rfl rfl (V.pure rfl) (fun a hf => ?_)
                refine S.val hf hs (v := .bool (decide ((byteAt [95, 43, 45, 35] (x1.toNat : Int)) < 0))) rfl rfl rfl (V.pure rfl) (fun a hf => ?_)
                refine R.nil ?_
                refine X.then_ ?_
                exact ⟨(decide ((byteAt [95, 43, 45, 35] (x1.toNat : Int)) < 0)), h, ((((hf.nil.cons (hf.get 39 _ rfl)).cons (hf.get 7 _ rfl)).cons (hf.get 6 _ rfl)).cons (hf.get 0 _ rfl)), hs⟩
              · replace h := h.2 hc
                refine S.skip hf rfl rfl rfl (fun a hf => ?_)
                refine S.skip hf rfl rfl rfl (fun a hf => ?_)
                refine S.skip hf rfl rfl rfl (fun a hf => ?_)
                refine S.val hf hs (v := .bool false) rfl rfl rfl (V.pure rfl) (fun a hf => ?_)
                refine R.nil ?_
                refine X.then_ ?_
                exact ⟨false, h, ((((hf.nil.cons (hf.get 39 _ rfl)).cons (hf.get 7 _ rfl)).cons (hf.get 6 _ rfl)).cons (hf.get 0 _ rfl)), hs⟩
          · replace h := h.2 hc
            refine S.val hf hs (v := .int .u8 (x1.toNat : Int)) rfl rfl rfl (V.pure rfl) (fun a hf => ?_)
            refine S.val hf hs (v := .bool (decide ((x1.toNat : Int) > 90))) rfl rfl rfl (V.pure rfl) (fun a hf => ?_)
            refine S.val hf hs (v := .bool (decide ((x1.toNat : Int) > 90))) rfl rfl rfl (V.pure rfl) (fun a hf => ?_)
            refine S.val hf hs (v := .bool (decide ((x1.toNat : Int) > 90))) rfl rfl rfl (V.pure rfl) (fun a hf => ?_)
            refine S.split hf hs (b := decide ((x1.toNat : Int) > 90)) rfl rfl rfl (V.pure rfl) (fun hc a hf => ?_) (fun hc a hf => ?_)
            · replace h := h.1 hc
              refine S.val hf hs (v := .int .u8 (x1.toNat : Int)) rfl rfl rfl (V.pure rfl) (fun a hf => ?_)
              refine S.val hf hs (v := .bool (decide ((x1.toNat : Int) < 48))) rfl rfl rfl (V.pure rfl) (fun a hf => ?_)
              refine S.split hf hs (b := decide ((x1.toNat : Int) < 48)) rfl rfl rfl (V.pure rfl) (fun hc a hf => ?_) (fun hc a hf => ?_)
              · replace h := h.1 hc
                refine S.skip hf rfl rfl rfl (fun a hf => ?_)
                refine S.skip hf rfl rfl rfl (fun a hf => ?_)
                refine S.val hf hs (v := .bool true) rfl rfl rfl (V.pure rfl) (fun a hf => ?_)
                refine S.val hf hs (v := .bool true) rfl rfl rfl (V.pure rfl) (fun a hf => ?_)
                refine S.val hf hs (v := .bool true) rfl rfl rfl (V.pure rfl) (fun a hf => ?_)
                refine S.val hf hs (v := .int .u8 (x1.toNat : Int)) rfl rfl rfl (V.pure rfl) (fun a hf => ?_)
                refine S.callv hf rfl rfl rfl (call_fn (vs := [.string (ba [95, 43, 45, 35]), .int .u8 (x1.toNat : Int)]) rfl rfl rfl Try.call24) (C_strings_IndexByte [95, 43, 45, 35] (x1.toNat : Int) _ ) (fun a w hf hs' => ?_)
                replace hs := hs.call hs'; clear hs'
                refine S.val hf hs (v := .bool (decide ((byteAt [95, 43, 45, 35] (x1.toNat : Int)) < 0))) rfl rfl rfl (V.pure rfl) (fun a hf => ?_)
                refine S.val hf hs (v := .bool (decide ((byteAt [95, 43, 45, 35] (x1.toNat : Int)) < 0))) rfl rfl rfl (V.pure rfl) (fun a hf => ?_)
                refine R.nil ?_
                refine X.then_ ?_
                exact ⟨(decide ((byteAt [95, 43, 45, 35] (x1.toNat : Int)) < 0)), h, ((((hf.nil.cons (hf.get 39 _ rfl)).cons (hf.get 7 _ rfl)).cons (hf.get 6 _ rfl)).cons (hf.get 0 _ rfl)), hs⟩
              · replace h := h.2 hc
                refine S.val hf hs (v := .int .u8 (x1.toNat : Int)) rfl rfl rfl (V.pure rfl) (fun a hf => ?_)
                refine S.val hf hs (v := .bool (decide ((x1.toNat : Int) > 57))) rfl rfl rfl (V.pure rfl) (fun a hf => ?_)
                refine S.val hf hs (v := .bool (decide ((x1.toNat : Int) > 57))) rfl rfl rfl (V.pure rfl) (fun a hf => ?_)
                refine S.val hf hs (v := .bool (decide ((x1.toNat : Int) > 57))) rfl rfl rfl (V.pure rfl) (fun a hf => ?_)
                refine S.split hf hs (b := decide ((x1.toNat : Int) > 57)) rfl rfl rfl (V.pure rfl) (fun hc a hf => ?_) (fun hc a hf => ?_)
                · replace h := h.1 hc
                  refine S.val hf hs (v := .int .u8 (x1.toNat : Int)) rfl rfl rfl (V.pure rfl) (fun a hf => ?_)
                  refine S.callv hf rfl rfl rfl (call_fn (vs := [.string (ba [95, 43, 45, 35]), .int .u8 (x1.toNat : Int)]) rfl rfl rfl Try.call24) (C_strings_IndexByte [95, 43, 45, 35] (x1.toNat : Int) _ ) (fun a w hf hs' => ?_)
                  replace hs := hs.call hs'; clear hs'
                  refine S.val hf hs (v := .bool (decide ((byteAt [95, 43, 45, 35] (x1.toNat : Int)) < 0))) rfl rfl rfl (V.pure rfl) (fun a hf => ?_)
                  refine S.val hf hs (v := .bool (decide ((byteAt [95, 43, 45, 35] (x1.toNat : Int)) < 0))) rfl rfl rfl (V.pure rfl) (fun a hf => ?_)
                  refine R.nil ?_
                  refine X.then_ ?_
                  exact ⟨(decide ((byteAt [95, 43, 45, 35] (x1.toNat : Int)) < 0)), h, ((((hf.nil.cons (hf.get 39 _ rfl)).cons (hf.get 7 _ rfl)).cons (hf.get 6 _ rfl)).cons (hf.get 0 _ rfl)), hs⟩
                · replace h := h.2 hc
                  refine S.skip hf rfl rfl rfl (fun a hf => ?_)
                  refine S.skip hf rfl rfl rfl (fun a hf => ?_)
                  refine S.skip hf rfl rfl rfl (fun a hf => ?_)
                  refine S.val hf hs (v := .bool false) rfl rfl rfl (V.pure rfl) (fun a hf => ?_)
                  refine R.nil ?_
                  refine X.then_ ?_
                  exact ⟨false, h, ((((hf.nil.cons (hf.get 39 _ rfl)).cons (hf.get 7 _ rfl)).cons (hf.get 6 _ rfl)).cons (hf.get 0 _ rfl)), hs⟩
            · replace h := h.2 hc
              refine S.skip hf rfl rfl rfl (fun a hf => ?_)
              refine S.skip hf rfl rfl rfl (fun a hf => ?_)
              refine S.skip hf rfl rfl rfl (fun a hf => ?_)
              refine S.skip hf rfl rfl rfl (fun a hf => ?_)
              refine S.skip hf rfl rfl rfl (fun a hf => ?_)
              refine S.skip hf rfl rfl rfl (fun a hf => ?_)
              refine S.val hf hs (v := .bool false) rfl rfl rfl (V.pure rfl) (fun a hf => ?_)
              refine S.val hf hs (v := .bool false) rfl rfl rfl (V.pure rfl) (fun a hf => ?_)
              refine S.skip hf rfl rfl rfl (fun a hf => ?_)
              refine S.skip hf rfl rfl rfl (fun a hf => ?_)
              refine S.skip hf rfl rfl rfl (fun a hf => ?_)
              refine S.val hf hs (v := .bool false) rfl rfl rfl (V.pure rfl) (fun a hf => ?_)
              refine R.nil ?_
              refine X.then_ ?_
              exact ⟨false, h, ((((hf.nil.cons (hf.get 39 _ rfl)).cons (hf.get 7 _ rfl)).cons (hf.get 6 _ rfl)).cons (hf.get 0 _ rfl)), hs⟩
        · replace h := h.2 hc
          refine S.skip hf rfl rfl rfl (fun a hf => ?_)
          refine S.skip hf rfl rfl rfl (fun a hf => ?_)
          refine S.skip hf rfl rfl rfl (fun a hf => ?_)
          refine S.skip hf rfl rfl rfl (fun a hf => ?_)
          refine S.skip hf rfl rfl rfl (fun a hf => ?_)
          refine S.skip hf rfl rfl rfl (fun a hf => ?_)
          refine S.val hf hs (v := .bool false) rfl rfl rfl (V.pure rfl) (fun a hf => ?_)
          refine S.val hf hs (v := .bool false) rfl rfl rfl (V.pure rfl) (fun a hf => ?_)
          refine S.skip hf rfl rfl rfl (fun a hf => ?_)
          refine S.skip hf rfl rfl rfl (fun a hf => ?_)
          refine S.skip hf rfl rfl rfl (fun a hf => ?_)
          refine S.skip hf rfl rfl rfl (fun a hf => ?_)
          refine S.skip hf rfl rfl rfl (fun a hf => ?_)
          refine S.skip hf rfl rfl rfl (fun a hf => ?_)
          refine S.val hf hs (v := .bool false) rfl rfl rfl (V.pure rfl) (fun a hf => ?_)
          refine S.val hf hs (v := .bool false) rfl rfl rfl (V.pure rfl) (fun a hf => ?_)
          refine S.skip hf rfl rfl rfl (fun a hf => ?_)
          refine S.skip hf rfl rfl rfl (fun a hf => ?_)
          refine S.skip hf rfl rfl rfl (fun a hf => ?_)
          refine S.val hf hs (v := .bool false) rfl rfl rfl (V.pure rfl) (fun a hf => ?_)
          refine R.nil ?_
          refine X.then_ ?_
          exact ⟨false, h, ((((hf.nil.cons (hf.get 39 _ rfl)).cons (hf.get 7 _ rfl)).cons (hf.get 6 _ rfl)).cons (hf.get 0 _ rfl)), hs⟩
  · replace h := h.2 hc
    refine wp_exit ?_
    refine X.then_exit ?_
    refine X.then_exit ?_
    refine X.blk_exit ?_
    refine X.then_ ?_
    refine wp_seq ?_
    refine R.list ?_
    refine S.val hf hs (v := .string (ba s_)) rfl rfl rfl (V.pure rfl) (fun a hf => ?_)
    refine S.val hf hs (v := .int .i64 (s_.length : Int)) rfl rfl rfl (V.lenStr rfl rfl Try.runUnderlying9) (fun a hf => ?_)
    refine S.callv hf rfl rfl rfl (call_fn (vs := [.int .i64 (s_.length : Int), .int .i64 1, .int .i64 40]) rfl rfl rfl Try.call17) (C_ref8_within (s_.length : Int) 1 40 _ ) (fun a w hf hs' => ?_)
    replace hs := hs.call hs'; clear hs'
    refine S.val hf hs (v := .bool (within (s_.length : Int) 1 40)) rfl rfl rfl (V.pure rfl) (fun a hf => ?_)
    refine R.nil ?_
    refine X.then_ ?_
    refine wp_ret ?_
    exact L.ret hf (run_results1 Try.results19 (ResIs.tmp hf rfl)) ⟨(within (s_.length : Int) 1 40), rfl, h, hs.nil⟩

set_option linter.unusedVariables false
def M_drill_CheckTools_k3 (Q : Int → Prop) (next1 : Prop) (c2 : Bool) : Prop :=
  cnd c2 (Q 8) (next1)
def M_drill_CheckTools_k2 (t : (List Bit)) (Q : Int → Prop) (k1 : Nat) (xk1 : Bit) (next1 : Prop) (c1 : Bool) : Prop :=
  cnd c1 (Q 1) (cnd (decide ((k1 : Int) > 0)) (idx t (w64 ((k1 : Int) - 1)) fun x1 => M_drill_CheckTools_k3 Q next1 (strLt xk1.Name x1.Name || xk1.Name == x1.Name)) (M_drill_CheckTools_k3 Q next1 false))
def M_drill_CheckTools_L1 (t : (List Bit)) (Q : Int → Prop) (k1 : Nat) (xk1 : Bit)  (next1 : Prop) : Prop :=
  M_netlist_IsWord xk1.Name fun y1 => cnd (!y1) (Q 5) (cnd (!(within xk1.Size 1 10000)) (M_drill_CheckTools_k2 t Q k1 xk1 next1 true) (cnd (!(within xk1.Life 1 2000)) (M_drill_CheckTools_k2 t Q k1 xk1 next1 true) (M_drill_CheckTools_k2 t Q k1 xk1 next1 (!(within xk1.Stack 0 1000)))))
def M_drill_CheckTools (t : (List Bit)) (Q : Int → Prop) : Prop :=
  cnd (decide ((t.length : Int) > 100)) (Q 2) (forIn' (fun k x (s : Unit) next => M_drill_CheckTools_L1 t Q k x (next ())) (fun (s : Unit) => Q 0) t 0 ())
set_option maxHeartbeats 1000000 in
theorem R_drill_CheckTools (t : (List Bit)) (w0 : World) (tA : Option Addr) (tC : Nat) (hv_t : View w0 (old w0 none_) tA tC t) (Q : Int → Prop) (h : M_drill_CheckTools t Q) :
    Ret Try.prog 8 #[.slice tA t.length tC] w0 fun v w' => ∃ (r0 : Int), v = .int .i64 r0 ∧ Q r0 ∧ Sat w0 none_ [] w' := by
  refine fn_enter Try.func8 rfl Try.ntmps8 rfl (fs := [(0, .slice tA t.length tC)]) rfl (fun a hf => ?_)
  have hs := Sat.start w0 none_
  unfold M_drill_CheckTools at h
  refine wp_seq ?_
  refine R.list ?_
  refine S.val hf hs (v := .int .i64 0) rfl rfl rfl (V.pure rfl) (fun a hf => ?_)
  refine R.nil ?_
  refine X.then_ ?_
  refine wp_seq ?_
  refine wp_seq ?_
  refine R.list ?_
  refine S.val hf hs (v := .slice tA t.length tC) rfl rfl rfl (V.pure rfl) (fun a hf => ?_)
  refine S.val hf hs (v := .int .i64 (t.length : Int)) rfl rfl rfl (V.len rfl rfl Try.runUnderlying23) (fun a hf => ?_)
  refine S.val hf hs (v := .bool (decide ((t.length : Int) > 100))) rfl rfl rfl (V.pure rfl) (fun a hf => ?_)
  refine R.nil ?_
  refine X.then_ ?_
  refine C.cond hf (b := decide ((t.length : Int) > 100)) rfl (fun hc => ?_) (fun hc => ?_)
  · replace h := h.1 hc
    refine wp_seq ?_
    refine R.list ?_
    refine S.val hf hs (v := .int .i64 2) rfl rfl rfl (V.pure rfl) (fun a hf => ?_)
    refine R.nil ?_
    refine X.then_ ?_
    refine wp_ret ?_
    refine X.then_ret ?_
    exact L.ret hf (run_results1 Try.results8 (ResIs.tmp hf rfl)) ⟨2, rfl, h, hs.nil⟩
  · replace h := h.2 hc
    refine wp_skip ?_
    refine X.then_ ?_
    refine wp_seq ?_
    refine wp_seq ?_
    refine R.list ?_
    refine S.val hf hs (v := .slice tA t.length tC) rfl rfl rfl (V.pure rfl) (fun a hf => ?_)
    refine S.val hf hs (v := .int .i64 (t.length : Int)) rfl rfl rfl (V.len rfl rfl Try.runUnderlying23) (fun a hf => ?_)
    refine S.val hf hs (v := .int .i64 0) rfl rfl rfl (V.pure rfl) (fun a hf => ?_)
    refine R.nil ?_
    refine X.then_ ?_
    refine wp_block ?_
    have hlenk1 := hv_t.len64
    refine C.range (fun (ll : List Bit) a w => ∃ (k1 : Nat) , t.drop k1 = ll ∧ k1 + ll.length = t.length ∧ forIn' (fun k x (s : Unit) next => M_drill_CheckTools_L1 t Q k x (next ())) (fun (s : Unit) => Q 0) ll k1 () ∧ FrOk 52 [(10, .int .i64 (k1 : Int)), (0, .slice tA t.length tC), (8, .slice tA t.length tC), (9, .int .i64 (t.length : Int))] a ∧ Sat w0 none_ [] w) t ⟨0, rfl, Nat.zero_add _, h, ((((hf.nil.cons (hf.get 9 _ rfl)).cons (hf.get 8 _ rfl)).cons (hf.get 0 _ rfl)).cons (hf.get 10 _ rfl)), hs⟩ ?_
    clear h hf hs
    rintro llk1 a w ⟨k1, hlk1, hkk1, h, hf, hs⟩
    cases llk1 with
    | nil =>
      have hc := range_done hkk1
      replace h : Q 0 := h
      refine wp_seq ?_
      refine R.list ?_
      refine S.val hf hs (v := .bool false) rfl rfl rfl (V.cmp false rfl rfl rfl rfl hc) (fun a hf => ?_)
      refine R.nil ?_
      refine X.then_ ?_
      refine wp_seq ?_
      refine C.no hf rfl ?_
      refine wp_exit ?_
      refine X.then_exit ?_
      refine X.then_exit ?_
      refine X.blk_exit ?_
      refine X.then_ ?_
      refine wp_seq ?_
      refine R.list ?_
      refine S.val hf hs (v := .int .i64 0) rfl rfl rfl (V.pure rfl) (fun a hf => ?_)
      refine R.nil ?_
      refine X.then_ ?_
      refine wp_ret ?_
      exact L.ret hf (run_results1 Try.results8 (ResIs.tmp hf rfl)) ⟨0, rfl, h, hs.nil⟩
    | cons xk1 llk1 =>
      have hltk1 := range_lt hkk1; have hc := range_go hkk1; have hxk1 := range_get hlk1
      obtain ⟨next1, hnext1⟩ : ∃ X : Prop, X = (forIn' (fun k x (s : Unit) next => M_drill_CheckTools_L1 t Q k x (next ())) (fun (s : Unit) => Q 0) llk1 (k1 + 1) ()) := ⟨_, rfl⟩
      replace h : M_drill_CheckTools_L1 t Q k1 xk1  next1 := by rw [hnext1]; exact h
      unfold M_drill_CheckTools_L1 at h
      refine wp_seq ?_
      refine R.list ?_
      refine S.val hf hs (v := .bool true) rfl rfl rfl (V.cmp true rfl rfl rfl rfl hc) (fun a hf => ?_)
      refine R.nil ?_
      refine X.then_ ?_
      refine wp_seq ?_
      refine C.yes hf rfl ?_
      refine wp_skip ?_
      refine X.then_ ?_
      refine wp_seq ?_
      refine wp_block ?_
      refine wp_seq ?_
      refine R.list ?_
      refine S.val hf hs (v := .int .i64 (k1 : Int)) rfl rfl rfl (V.pure rfl) (fun a hf => ?_)
      refine S.val hf hs (v := elemPtr tA (k1 * 4)) rfl rfl rfl (V.index rfl rfl rfl Try.runUnderlying23 Try.sizeOf42 (hv_t.some_ (lt_of_get hxk1)) (Int.natCast_nonneg _) (lt_of_get hxk1) rfl) (fun a hf => ?_)
      refine S.val hf hs (v := .agg #[.string (ba xk1.Name), .int .i64 xk1.Size, .int .i64 xk1.Life, .int .i64 xk1.Stack]) rfl rfl rfl (V.loadEl (off := 0) (Ag.args _ _ _) (hv_t.flat hxk1) rfl rfl rfl Try.isAgg42 Try.sizeOf42 rfl rfl) (fun a hf => ?_)
      refine S.alloc hf hs rfl rfl rfl [.string (ba []), .int .i64 0, .int .i64 0, .int .i64 0] rfl Try.zeroValue42 rfl (fun g1 a w hf hs => ?_)
      refine S.val hf hs (v := .int .i64 (k1 : Int)) rfl rfl rfl (V.pure rfl) (fun a hf => ?_)
      refine S.storeBox 0 hf hs rfl rfl [.string (ba xk1.Name), .int .i64 xk1.Size, .int .i64 xk1.Life, .int .i64 xk1.Stack] [.string (ba xk1.Name), .int .i64 xk1.Size, .int .i64 xk1.Life, .int .i64 xk1.Stack] rfl rfl rfl rfl rfl Try.sizeOf42 rfl rfl rfl rfl (fun a w hf hs => ?_)
      refine R.nil ?_
      refine X.then_ ?_
      refine wp_block ?_
      refine wp_seq ?_
      refine R.list ?_
      refine S.val hf hs (v := .pointer (some ⟨g1, 0, none⟩)) rfl rfl rfl (V.fieldBox rfl rfl Try.runUnderlying42 rfl Try.sizeOf9 rfl rfl) (fun a hf => ?_)
      refine S.val hf hs (v := .string (ba xk1.Name)) rfl rfl rfl (V.loadBox 0 rfl rfl rfl Try.isAgg9 Try.sizeOf9 rfl rfl) (fun a hf => ?_)
      refine S.call hf rfl rfl rfl (call_fn (vs := [.string (ba xk1.Name)]) rfl rfl rfl Try.call18) (R_netlist_IsWord xk1.Name _  _ h) (fun v a w' hf hr => ?_)
      obtain ⟨y1, rfl, h2, hs2⟩ := hr
      replace h := h2; replace hs := hs.call hs2; clear h2 hs2
      refine S.val hf hs (v := .bool (!y1)) rfl rfl rfl (V.pure rfl) (fun a hf => ?_)
      refine S.val hf hs (v := .bool (!y1)) rfl rfl rfl (V.pure rfl) (fun a hf => ?_)
      refine R.nil ?_
      refine X.then_ ?_
      refine C.cond hf (b := !y1) rfl (fun hc => ?_) (fun hc => ?_)
      · replace h := h.1 hc
        refine wp_seq ?_
        refine R.list ?_
        refine S.val hf hs (v := .int .i64 5) rfl rfl rfl (V.pure rfl) (fun a hf => ?_)
        refine R.nil ?_
        refine X.then_ ?_
        refine wp_ret ?_
        refine X.blk_ret ?_
        refine X.blk_ret ?_
        refine X.then_ret ?_
        refine X.then_ret ?_
        refine X.blk_ret ?_
        refine X.then_ret ?_
        exact L.ret hf (run_results1 Try.results8 (ResIs.tmp hf rfl)) ⟨5, rfl, h, hs.nil⟩
      · replace h := h.2 hc
        refine wp_seq ?_
        refine C.cut (J := fun a w => ∃ (c1 : Bool), M_drill_CheckTools_k2 t Q k1 xk1 next1 c1 ∧ FrOk 52 [(0, .slice tA t.length tC), (3, .int .i64 (k1 : Int)), (4, .pointer (some ⟨g1, 0, none⟩)), (8, .slice tA t.length tC), (9, .int .i64 (t.length : Int)), (10, .int .i64 (k1 : Int)), (20, .bool c1)] a ∧ Sat w0 none_ [hbox g1 42 [.string (ba xk1.Name), .int .i64 xk1.Size, .int .i64 xk1.Life, .int .i64 xk1.Stack]] w) ?_ ?_
        · rintro a w ⟨c1, h, hf, hs⟩
          unfold M_drill_CheckTools_k2 at h
          refine C.cond hf (b := c1) rfl (fun hc => ?_) (fun hc => ?_)
          · replace h := h.1 hc
            refine wp_seq ?_
            refine R.list ?_
            refine S.val hf hs (v := .int .i64 1) rfl rfl rfl (V.pure rfl) (fun a hf => ?_)
            refine R.nil ?_
            refine X.then_ ?_
            refine wp_ret ?_
            refine X.blk_ret ?_
            refine X.blk_ret ?_
            refine X.then_ret ?_
            refine X.then_ret ?_
            refine X.blk_ret ?_
            refine X.then_ret ?_
            exact L.ret hf (run_results1 Try.results8 (ResIs.tmp hf rfl)) ⟨1, rfl, h, hs.nil⟩
          · replace h := h.2 hc
            refine wp_seq ?_
            refine C.cut (J := fun a w => ∃ (c2 : Bool), M_drill_CheckTools_k3 Q next1 c2 ∧ FrOk 52 [(0, .slice tA t.length tC), (8, .slice tA t.length tC), (9, .int .i64 (t.length : Int)), (10, .int .i64 (k1 : Int)), (37, .bool c2)] a ∧ Sat w0 none_ [hbox g1 42 [.string (ba xk1.Name), .int .i64 xk1.Size, .int .i64 xk1.Life, .int .i64 xk1.Stack]] w) ?_ ?_
            · rintro a w ⟨c2, h, hf, hs⟩
              unfold M_drill_CheckTools_k3 at h
              refine C.cond hf (b := c2) rfl (fun hc => ?_) (fun hc => ?_)
              · replace h := h.1 hc
                refine wp_seq ?_
                refine R.list ?_
                refine S.val hf hs (v := .int .i64 8) rfl rfl rfl (V.pure rfl) (fun a hf => ?_)
                refine R.nil ?_
                refine X.then_ ?_
                refine wp_ret ?_
                refine X.blk_ret ?_
                refine X.blk_ret ?_
                refine X.then_ret ?_
                refine X.then_ret ?_
                refine X.blk_ret ?_
                refine X.then_ret ?_
                exact L.ret hf (run_results1 Try.results8 (ResIs.tmp hf rfl)) ⟨8, rfl, h, hs.nil⟩
              · replace h := h.2 hc
                refine wp_skip ?_
                refine X.blk ?_
                refine X.blk ?_
                refine X.then_ ?_
                refine R.list ?_
                refine S.val hf hs (v := .int .i64 ((k1 + 1 : Nat) : Int)) rfl rfl rfl (V.incr rfl rfl rfl hltk1 hlenk1) (fun a hf => ?_)
                refine S.val hf hs (v := .int .i64 ((k1 + 1 : Nat) : Int)) rfl rfl rfl (V.pure rfl) (fun a hf => ?_)
                refine R.nil ?_
                refine X.then_ ?_
                exact ⟨xk1, llk1, rfl, k1 + 1, range_drop hlk1, range_len hkk1, (by rw [hnext1] at h; exact h), ((((hf.nil.cons (hf.get 9 _ rfl)).cons (hf.get 8 _ rfl)).cons (hf.get 0 _ rfl)).cons (hf.get 10 _ rfl)), hs.drop⟩
            · skip
              refine R.draw mo (by kernel_rfl) hs ?_
              refine D.val hf (v := .int .i64 (k1 : Int)) rfl rfl rfl (V.pure rfl) (fun a hf => ?_)
              refine D.val hf (v := .bool (decide ((k1 : Int) > 0))) rfl rfl rfl (V.pure rfl) (fun a hf => ?_)
              refine D.split hf (b := decide ((k1 : Int) > 0)) rfl rfl rfl (V.pure rfl) (fun hc a hf => ?_) (fun hc a hf => ?_)
              · replace h := h.1 hc
                refine D.val hf (v := .pointer (some ⟨g1, 0, none⟩)) rfl rfl rfl (V.fieldBox rfl rfl Try.runUnderlying42 rfl Try.sizeOf9 rfl rfl) (fun a hf => ?_)
                refine D.val hf (v := .string (ba xk1.Name)) rfl rfl rfl (V.loadBox 0 rfl rfl rfl Try.isAgg9 Try.sizeOf9 rfl rfl) (fun a hf => ?_)
                refine D.val hf (v := .slice tA t.length tC) rfl rfl rfl (V.pure rfl) (fun a hf => ?_)
                refine D.val hf (v := .int .i64 (k1 : Int)) rfl rfl rfl (V.pure rfl) (fun a hf => ?_)
                refine D.val hf (v := .int .i64 (w64 ((k1 : Int) - 1))) rfl rfl rfl (V.pure rfl) (fun a hf => ?_)
                obtain ⟨h0x1, x1, hx1, h⟩ := h
                refine D.val hf (v := elemPtr tA ((w64 ((k1 : Int) - 1)).toNat * 4)) rfl rfl rfl (V.index rfl rfl rfl Try.runUnderlying23 Try.sizeOf42 (hv_t.some_ (lt_of_get hx1)) h0x1 (lt_of_get hx1) rfl) (fun a hf => ?_)
                refine D.val hf (v := elemPtr tA ((w64 ((k1 : Int) - 1)).toNat * 4)) rfl rfl rfl (V.fieldEl rfl rfl (hv_t.some_ (lt_of_get hx1)) Try.runUnderlying42 rfl Try.sizeOf9 rfl rfl) (fun a hf => ?_)
                refine D.val hf (v := .string (ba x1.Name)) rfl rfl rfl (V.loadEl (off := 0) (Ag.args _ _ _) (hv_t.flat hx1) rfl rfl rfl Try.isAgg9 Try.sizeOf9 rfl rfl) (fun a hf => ?_)
                refine D.val hf (v := .bool (strLt xk1.Name x1.Name || xk1.Name == x1.Name)) rfl rfl rfl (V.strCmp (strLt xk1.Name x1.Name || xk1.Name == x1.Name) rfl rfl rfl rfl) (fun a hf => ?_)
                refine D.val hf (v := .bool (strLt xk1.Name x1.Name || xk1.Name == x1.Name)) rfl rfl rfl (V.pure rfl) (fun a hf => ?_)
                refine D.val hf (v := .bool (strLt xk1.Name x1.Name || xk1.Name == x1.Name)) rfl rfl rfl (V.pure rfl) (fun a hf => ?_)
                refine D.done (fun w hs => ?_)
                refine X.then_ ?_
                exact ⟨(strLt xk1.Name x1.Name || xk1.Name == x1.Name), h, (((((hf.nil.cons (hf.get 37 _ rfl)).cons (hf.get 10 _ rfl)).cons (hf.get 9 _ rfl)).cons (hf.get 8 _ rfl)).cons (hf.get 0 _ rfl)), hs⟩
              · replace h := h.2 hc
                refine D.skip hf rfl rfl rfl (fun a hf => ?_)
                refine D.skip hf rfl rfl rfl (fun a hf => ?_)
                refine D.skip hf rfl rfl rfl (fun a hf => ?_)
                refine D.skip hf rfl rfl rfl (fun a hf => ?_)
                refine D.skip hf rfl rfl rfl (fun a hf => ?_)
                refine D.skip hf rfl rfl rfl (fun a hf => ?_)
                refine D.skip hf rfl rfl rfl (fun a hf => ?_)
                refine D.skip hf rfl rfl rfl (fun a hf => ?_)
                refine D.skip hf rfl rfl rfl (fun a hf => ?_)
                refine D.val hf (v := .bool false) rfl rfl rfl (V.pure rfl) (fun a hf => ?_)
                refine D.val hf (v := .bool false) rfl rfl rfl (V.pure rfl) (fun a hf => ?_)
                refine D.done (fun w hs => ?_)
                refine X.then_ ?_
                exact ⟨false, h, (((((hf.nil.cons (hf.get 37 _ rfl)).cons (hf.get 10 _ rfl)).cons (hf.get 9 _ rfl)).cons (hf.get 8 _ rfl)).cons (hf.get 0 _ rfl)), hs⟩
        · skip
          refine R.list ?_
          refine S.val hf hs (v := .pointer (some ⟨g1, 1, none⟩)) rfl rfl rfl (V.fieldBox rfl rfl Try.runUnderlying42 rfl Try.sizeOf3 rfl rfl) (fun a hf => ?_)
          refine S.val hf hs (v := .int .i64 xk1.Size) rfl rfl rfl (V.loadBox 0 rfl rfl rfl Try.isAgg3 Try.sizeOf3 rfl rfl) (fun a hf => ?_)
          refine S.callv hf rfl rfl rfl (call_fn (vs := [.int .i64 xk1.Size, .int .i64 1, .int .i64 10000]) rfl rfl rfl Try.call15) (C_drill_within xk1.Size 1 10000 _ ) (fun a w hf hs' => ?_)
          replace hs := hs.call hs'; clear hs'
          refine S.val hf hs (v := .bool (!(within xk1.Size 1 10000))) rfl rfl rfl (V.pure rfl) (fun a hf => ?_)
          refine S.split hf hs (b := !(within xk1.Size 1 10000)) rfl rfl rfl (V.pure rfl) (fun hc a hf => ?_) (fun hc a hf => ?_)
          · replace h := h.1 hc
            refine S.skip hf rfl rfl rfl (fun a hf => ?_)
            refine S.skip hf rfl rfl rfl (fun a hf => ?_)
            refine S.skip hf rfl rfl rfl (fun a hf => ?_)
            refine S.skip hf rfl rfl rfl (fun a hf => ?_)
            refine S.val hf hs (v := .bool true) rfl rfl rfl (V.pure rfl) (fun a hf => ?_)
            refine S.val hf hs (v := .bool true) rfl rfl rfl (V.pure rfl) (fun a hf => ?_)
            refine S.skip hf rfl rfl rfl (fun a hf => ?_)
            refine S.skip hf rfl rfl rfl (fun a hf => ?_)
            refine S.skip hf rfl rfl rfl (fun a hf => ?_)
            refine S.skip hf rfl rfl rfl (fun a hf => ?_)
            refine S.val hf hs (v := .bool true) rfl rfl rfl (V.pure rfl) (fun a hf => ?_)
            refine S.val hf hs (v := .bool true) rfl rfl rfl (V.pure rfl) (fun a hf => ?_)
            refine R.nil ?_
            refine X.then_ ?_
            exact ⟨true, h, (((((((hf.nil.cons (hf.get 20 _ rfl)).cons (hf.get 10 _ rfl)).cons (hf.get 9 _ rfl)).cons (hf.get 8 _ rfl)).cons (hf.get 4 _ rfl)).cons (hf.get 3 _ rfl)).cons (hf.get 0 _ rfl)), hs⟩
          · replace h := h.2 hc
            refine S.val hf hs (v := .pointer (some ⟨g1, 2, none⟩)) rfl rfl rfl (V.fieldBox rfl rfl Try.runUnderlying42 rfl Try.sizeOf3 rfl rfl) (fun a hf => ?_)
            refine S.val hf hs (v := .int .i64 xk1.Life) rfl rfl rfl (V.loadBox 0 rfl rfl rfl Try.isAgg3 Try.sizeOf3 rfl rfl) (fun a hf => ?_)
            refine S.callv hf rfl rfl rfl (call_fn (vs := [.int .i64 xk1.Life, .int .i64 1, .int .i64 2000]) rfl rfl rfl Try.call15) (C_drill_within xk1.Life 1 2000 _ ) (fun a w hf hs' => ?_)
            replace hs := hs.call hs'; clear hs'
            refine S.val hf hs (v := .bool (!(within xk1.Life 1 2000))) rfl rfl rfl (V.pure rfl) (fun a hf => ?_)
            refine S.val hf hs (v := .bool (!(within xk1.Life 1 2000))) rfl rfl rfl (V.pure rfl) (fun a hf => ?_)
            refine S.split hf hs (b := !(within xk1.Life 1 2000)) rfl rfl rfl (V.pure rfl) (fun hc a hf => ?_) (fun hc a hf => ?_)
            · replace h := h.1 hc
              refine S.skip hf rfl rfl rfl (fun a hf => ?_)
              refine S.skip hf rfl rfl rfl (fun a hf => ?_)
              refine S.skip hf rfl rfl rfl (fun a hf => ?_)
              refine S.skip hf rfl rfl rfl (fun a hf => ?_)
              refine S.val hf hs (v := .bool true) rfl rfl rfl (V.pure rfl) (fun a hf => ?_)
              refine S.val hf hs (v := .bool true) rfl rfl rfl (V.pure rfl) (fun a hf => ?_)
              refine R.nil ?_
              refine X.then_ ?_
              exact ⟨true, h, (((((((hf.nil.cons (hf.get 20 _ rfl)).cons (hf.get 10 _ rfl)).cons (hf.get 9 _ rfl)).cons (hf.get 8 _ rfl)).cons (hf.get 4 _ rfl)).cons (hf.get 3 _ rfl)).cons (hf.get 0 _ rfl)), hs⟩
            · replace h := h.2 hc
              refine S.val hf hs (v := .pointer (some ⟨g1, 3, none⟩)) rfl rfl rfl (V.fieldBox rfl rfl Try.runUnderlying42 rfl Try.sizeOf3 rfl rfl) (fun a hf => ?_)
              refine S.val hf hs (v := .int .i64 xk1.Stack) rfl rfl rfl (V.loadBox 0 rfl rfl rfl Try.isAgg3 Try.sizeOf3 rfl rfl) (fun a hf => ?_)
              refine S.callv hf rfl rfl rfl (call_fn (vs := [.int .i64 xk1.Stack, .int .i64 0, .int .i64 1000]) rfl rfl rfl Try.call15) (C_drill_within xk1.Stack 0 1000 _ ) (fun a w hf hs' => ?_)
              replace hs := hs.call hs'; clear hs'
              refine S.val hf hs (v := .bool (!(within xk1.Stack 0 1000))) rfl rfl rfl (V.pure rfl) (fun a hf => ?_)
              refine S.val hf hs (v := .bool (!(within xk1.Stack 0 1000))) rfl rfl rfl (V.pure rfl) (fun a hf => ?_)
              refine S.val hf hs (v := .bool (!(within xk1.Stack 0 1000))) rfl rfl rfl (V.pure rfl) (fun a hf => ?_)
              refine R.nil ?_
              refine X.then_ ?_
              exact ⟨(!(within xk1.Stack 0 1000)), h, (((((((hf.nil.cons (hf.get 20 _ rfl)).cons (hf.get 10 _ rfl)).cons (hf.get 9 _ rfl)).cons (hf.get 8 _ rfl)).cons (hf.get 4 _ rfl)).cons (hf.get 3 _ rfl)).cons (hf.get 0 _ rfl)), hs⟩

set_option linter.unusedVariables false
def M_ref8_CheckTools_k3 (Q : Int → Prop) (next1 : Prop) (c2 : Bool) : Prop :=
  cnd c2 (Q 8) (next1)
def M_ref8_CheckTools_k2 (t : (List Bit)) (Q : Int → Prop) (k1 : Nat) (xk1 : Bit) (next1 : Prop) (c1 : Bool) : Prop :=
  cnd c1 (Q 1) (cnd (decide ((k1 : Int) > 0)) (idx t (w64 ((k1 : Int) - 1)) fun x1 => M_ref8_CheckTools_k3 Q next1 (strLt xk1.Name x1.Name || xk1.Name == x1.Name)) (M_ref8_CheckTools_k3 Q next1 false))
def M_ref8_CheckTools_L1 (t : (List Bit)) (Q : Int → Prop) (k1 : Nat) (xk1 : Bit)  (next1 : Prop) : Prop :=
  M_ref8_isWord xk1.Name fun y1 => cnd (!y1) (Q 5) (cnd (!(within xk1.Size 1 10000)) (M_ref8_CheckTools_k2 t Q k1 xk1 next1 true) (cnd (!(within xk1.Life 1 2000)) (M_ref8_CheckTools_k2 t Q k1 xk1 next1 true) (M_ref8_CheckTools_k2 t Q k1 xk1 next1 (!(within xk1.Stack 0 1000)))))
def M_ref8_CheckTools (t : (List Bit)) (Q : Int → Prop) : Prop :=
  cnd (decide ((t.length : Int) > 100)) (Q 2) (forIn' (fun k x (s : Unit) next => M_ref8_CheckTools_L1 t Q k x (next ())) (fun (s : Unit) => Q 0) t 0 ())
set_option maxHeartbeats 1000000 in
theorem R_ref8_CheckTools (t : (List Bit)) (w0 : World) (tA : Option Addr) (tC : Nat) (hv_t : View w0 (old w0 none_) tA tC t) (Q : Int → Prop) (h : M_ref8_CheckTools t Q) :
    Ret Try.prog 9 #[.slice tA t.length tC] w0 fun v w' => ∃ (r0 : Int), v = .int .i64 r0 ∧ Q r0 ∧ Sat w0 none_ [] w' := by
  refine fn_enter Try.func9 rfl Try.ntmps9 rfl (fs := [(0, .slice tA t.length tC)]) rfl (fun a hf => ?_)
  have hs := Sat.start w0 none_
  unfold M_ref8_CheckTools at h
  refine wp_seq ?_
  refine R.list ?_
  refine S.val hf hs (v := .int .i64 0) rfl rfl rfl (V.pure rfl) (fun a hf => ?_)
  refine R.nil ?_
  refine X.then_ ?_
  refine wp_seq ?_
  refine wp_seq ?_
  refine R.list ?_
  refine S.val hf hs (v := .slice tA t.length tC) rfl rfl rfl (V.pure rfl) (fun a hf => ?_)
  refine S.val hf hs (v := .int .i64 (t.length : Int)) rfl rfl rfl (V.len rfl rfl Try.runUnderlying23) (fun a hf => ?_)
  refine S.val hf hs (v := .bool (decide ((t.length : Int) > 100))) rfl rfl rfl (V.pure rfl) (fun a hf => ?_)
  refine R.nil ?_
  refine X.then_ ?_
  refine C.cond hf (b := decide ((t.length : Int) > 100)) rfl (fun hc => ?_) (fun hc => ?_)
  · replace h := h.1 hc
    refine wp_seq ?_
    refine R.list ?_
    refine S.val hf hs (v := .int .i64 2) rfl rfl rfl (V.pure rfl) (fun a hf => ?_)
    refine R.nil ?_
    refine X.then_ ?_
    refine wp_ret ?_
    refine X.then_ret ?_
    exact L.ret hf (run_results1 Try.results9 (ResIs.tmp hf rfl)) ⟨2, rfl, h, hs.nil⟩
  · replace h := h.2 hc
    refine wp_skip ?_
    refine X.then_ ?_
    refine wp_seq ?_
    refine wp_seq ?_
    refine R.list ?_
    refine S.val hf hs (v := .slice tA t.length tC) rfl rfl rfl (V.pure rfl) (fun a hf => ?_)
    refine S.val hf hs (v := .int .i64 (t.length : Int)) rfl rfl rfl (V.len rfl rfl Try.runUnderlying23) (fun a hf => ?_)
    refine S.val hf hs (v := .int .i64 0) rfl rfl rfl (V.pure rfl) (fun a hf => ?_)
    refine R.nil ?_
    refine X.then_ ?_
    refine wp_block ?_
    have hlenk1 := hv_t.len64
    refine C.range (fun (ll : List Bit) a w => ∃ (k1 : Nat) , t.drop k1 = ll ∧ k1 + ll.length = t.length ∧ forIn' (fun k x (s : Unit) next => M_ref8_CheckTools_L1 t Q k x (next ())) (fun (s : Unit) => Q 0) ll k1 () ∧ FrOk 52 [(10, .int .i64 (k1 : Int)), (0, .slice tA t.length tC), (8, .slice tA t.length tC), (9, .int .i64 (t.length : Int))] a ∧ Sat w0 none_ [] w) t ⟨0, rfl, Nat.zero_add _, h, ((((hf.nil.cons (hf.get 9 _ rfl)).cons (hf.get 8 _ rfl)).cons (hf.get 0 _ rfl)).cons (hf.get 10 _ rfl)), hs⟩ ?_
    clear h hf hs
    rintro llk1 a w ⟨k1, hlk1, hkk1, h, hf, hs⟩
    cases llk1 with
    | nil =>
      have hc := range_done hkk1
      replace h : Q 0 := h
      refine wp_seq ?_
      refine R.list ?_
      refine S.val hf hs (v := .bool false) rfl rfl rfl (V.cmp false rfl rfl rfl rfl hc) (fun a hf => ?_)
      refine R.nil ?_
      refine X.then_ ?_
      refine wp_seq ?_
      refine C.no hf rfl ?_
      refine wp_exit ?_
      refine X.then_exit ?_
      refine X.then_exit ?_
      refine X.blk_exit ?_
      refine X.then_ ?_
      refine wp_seq ?_
      refine R.list ?_
      refine S.val hf hs (v := .int .i64 0) rfl rfl rfl (V.pure rfl) (fun a hf => ?_)
      refine R.nil ?_
      refine X.then_ ?_
      refine wp_ret ?_
      exact L.ret hf (run_results1 Try.results9 (ResIs.tmp hf rfl)) ⟨0, rfl, h, hs.nil⟩
    | cons xk1 llk1 =>
      have hltk1 := range_lt hkk1; have hc := range_go hkk1; have hxk1 := range_get hlk1
      obtain ⟨next1, hnext1⟩ : ∃ X : Prop, X = (forIn' (fun k x (s : Unit) next => M_ref8_CheckTools_L1 t Q k x (next ())) (fun (s : Unit) => Q 0) llk1 (k1 + 1) ()) := ⟨_, rfl⟩
      replace h : M_ref8_CheckTools_L1 t Q k1 xk1  next1 := by rw [hnext1]; exact h
      unfold M_ref8_CheckTools_L1 at h
      refine wp_seq ?_
      refine R.list ?_
      refine S.val hf hs (v := .bool true) rfl rfl rfl (V.cmp true rfl rfl rfl rfl hc) (fun a hf => ?_)
      refine R.nil ?_
      refine X.then_ ?_
      refine wp_seq ?_
      refine C.yes hf rfl ?_
      refine wp_skip ?_
      refine X.then_ ?_
      refine wp_seq ?_
      refine wp_block ?_
      refine wp_seq ?_
      refine R.list ?_
      refine S.val hf hs (v := .int .i64 (k1 : Int)) rfl rfl rfl (V.pure rfl) (fun a hf => ?_)
      refine S.val hf hs (v := elemPtr tA (k1 * 4)) rfl rfl rfl (V.index rfl rfl rfl Try.runUnderlying23 Try.sizeOf42 (hv_t.some_ (lt_of_get hxk1)) (Int.natCast_nonneg _) (lt_of_get hxk1) rfl) (fun a hf => ?_)
      refine S.val hf hs (v := .agg #[.string (ba xk1.Name), .int .i64 xk1.Size, .int .i64 xk1.Life, .int .i64 xk1.Stack]) rfl rfl rfl (V.loadEl (off := 0) (Ag.args _ _ _) (hv_t.flat hxk1) rfl rfl rfl Try.isAgg42 Try.sizeOf42 rfl rfl) (fun a hf => ?_)
      refine S.alloc hf hs rfl rfl rfl [.string (ba []), .int .i64 0, .int .i64 0, .int .i64 0] rfl Try.zeroValue42 rfl (fun g1 a w hf hs => ?_)
      refine S.val hf hs (v := .int .i64 (k1 : Int)) rfl rfl rfl (V.pure rfl) (fun a hf => ?_)
      refine S.storeBox 0 hf hs rfl rfl [.string (ba xk1.Name), .int .i64 xk1.Size, .int .i64 xk1.Life, .int .i64 xk1.Stack] [.string (ba xk1.Name), .int .i64 xk1.Size, .int .i64 xk1.Life, .int .i64 xk1.Stack] rfl rfl rfl rfl rfl Try.sizeOf42 rfl rfl rfl rfl (fun a w hf hs => ?_)
      refine R.nil ?_
      refine X.then_ ?_
      refine wp_block ?_
      refine wp_seq ?_
      refine R.list ?_
      refine S.val hf hs (v := .pointer (some ⟨g1, 0, none⟩)) rfl rfl rfl (V.fieldBox rfl rfl Try.runUnderlying42 rfl Try.sizeOf9 rfl rfl) (fun a hf => ?_)
      refine S.val hf hs (v := .string (ba xk1.Name)) rfl rfl rfl (V.loadBox 0 rfl rfl rfl Try.isAgg9 Try.sizeOf9 rfl rfl) (fun a hf => ?_)
      refine S.call hf rfl rfl rfl (call_fn (vs := [.string (ba xk1.Name)]) rfl rfl rfl Try.call19) (R_ref8_isWord xk1.Name _  _ h) (fun v a w' hf hr => ?_)
      obtain ⟨y1, rfl, h2, hs2⟩ := hr
      replace h := h2; replace hs := hs.call hs2; clear h2 hs2
      refine S.val hf hs (v := .bool (!y1)) rfl rfl rfl (V.pure rfl) (fun a hf => ?_)
      refine S.val hf hs (v := .bool (!y1)) rfl rfl rfl (V.pure rfl) (fun a hf => ?_)
      refine R.nil ?_
      refine X.then_ ?_
      refine C.cond hf (b := !y1) rfl (fun hc => ?_) (fun hc => ?_)
      · replace h := h.1 hc
        refine wp_seq ?_
        refine R.list ?_
        refine S.val hf hs (v := .int .i64 5) rfl rfl rfl (V.pure rfl) (fun a hf => ?_)
        refine R.nil ?_
        refine X.then_ ?_
        refine wp_ret ?_
        refine X.blk_ret ?_
        refine X.blk_ret ?_
        refine X.then_ret ?_
        refine X.then_ret ?_
        refine X.blk_ret ?_
        refine X.then_ret ?_
        exact L.ret hf (run_results1 Try.results9 (ResIs.tmp hf rfl)) ⟨5, rfl, h, hs.nil⟩
      · replace h := h.2 hc
        refine wp_seq ?_
        refine C.cut (J := fun a w => ∃ (c1 : Bool), M_ref8_CheckTools_k2 t Q k1 xk1 next1 c1 ∧ FrOk 52 [(0, .slice tA t.length tC), (3, .int .i64 (k1 : Int)), (4, .pointer (some ⟨g1, 0, none⟩)), (8, .slice tA t.length tC), (9, .int .i64 (t.length : Int)), (10, .int .i64 (k1 : Int)), (20, .bool c1)] a ∧ Sat w0 none_ [hbox g1 42 [.string (ba xk1.Name), .int .i64 xk1.Size, .int .i64 xk1.Life, .int .i64 xk1.Stack]] w) ?_ ?_
        · rintro a w ⟨c1, h, hf, hs⟩
          unfold M_ref8_CheckTools_k2 at h
          refine C.cond hf (b := c1) rfl (fun hc => ?_) (fun hc => ?_)
          · replace h := h.1 hc
            refine wp_seq ?_
            refine R.list ?_
            refine S.val hf hs (v := .int .i64 1) rfl rfl rfl (V.pure rfl) (fun a hf => ?_)
            refine R.nil ?_
            refine X.then_ ?_
            refine wp_ret ?_
            refine X.blk_ret ?_
            refine X.blk_ret ?_
            refine X.then_ret ?_
            refine X.then_ret ?_
            refine X.blk_ret ?_
            refine X.then_ret ?_
            exact L.ret hf (run_results1 Try.results9 (ResIs.tmp hf rfl)) ⟨1, rfl, h, hs.nil⟩
          · replace h := h.2 hc
            refine wp_seq ?_
            refine C.cut (J := fun a w => ∃ (c2 : Bool), M_ref8_CheckTools_k3 Q next1 c2 ∧ FrOk 52 [(0, .slice tA t.length tC), (8, .slice tA t.length tC), (9, .int .i64 (t.length : Int)), (10, .int .i64 (k1 : Int)), (37, .bool c2)] a ∧ Sat w0 none_ [hbox g1 42 [.string (ba xk1.Name), .int .i64 xk1.Size, .int .i64 xk1.Life, .int .i64 xk1.Stack]] w) ?_ ?_
            · rintro a w ⟨c2, h, hf, hs⟩
              unfold M_ref8_CheckTools_k3 at h
              refine C.cond hf (b := c2) rfl (fun hc => ?_) (fun hc => ?_)
              · replace h := h.1 hc
                refine wp_seq ?_
                refine R.list ?_
                refine S.val hf hs (v := .int .i64 8) rfl rfl rfl (V.pure rfl) (fun a hf => ?_)
                refine R.nil ?_
                refine X.then_ ?_
                refine wp_ret ?_
                refine X.blk_ret ?_
                refine X.blk_ret ?_
                refine X.then_ret ?_
                refine X.then_ret ?_
                refine X.blk_ret ?_
                refine X.then_ret ?_
                exact L.ret hf (run_results1 Try.results9 (ResIs.tmp hf rfl)) ⟨8, rfl, h, hs.nil⟩
              · replace h := h.2 hc
                refine wp_skip ?_
                refine X.blk ?_
                refine X.blk ?_
                refine X.then_ ?_
                refine R.list ?_
                refine S.val hf hs (v := .int .i64 ((k1 + 1 : Nat) : Int)) rfl rfl rfl (V.incr rfl rfl rfl hltk1 hlenk1) (fun a hf => ?_)
                refine S.val hf hs (v := .int .i64 ((k1 + 1 : Nat) : Int)) rfl rfl rfl (V.pure rfl) (fun a hf => ?_)
                refine R.nil ?_
                refine X.then_ ?_
                exact ⟨xk1, llk1, rfl, k1 + 1, range_drop hlk1, range_len hkk1, (by rw [hnext1] at h; exact h), ((((hf.nil.cons (hf.get 9 _ rfl)).cons (hf.get 8 _ rfl)).cons (hf.get 0 _ rfl)).cons (hf.get 10 _ rfl)), hs.drop⟩
            · skip
              refine R.draw mo (by kernel_rfl) hs ?_
              refine D.val hf (v := .int .i64 (k1 : Int)) rfl rfl rfl (V.pure rfl) (fun a hf => ?_)
              refine D.val hf (v := .bool (decide ((k1 : Int) > 0))) rfl rfl rfl (V.pure rfl) (fun a hf => ?_)
              refine D.split hf (b := decide ((k1 : Int) > 0)) rfl rfl rfl (V.pure rfl) (fun hc a hf => ?_) (fun hc a hf => ?_)
              · replace h := h.1 hc
                refine D.val hf (v := .pointer (some ⟨g1, 0, none⟩)) rfl rfl rfl (V.fieldBox rfl rfl Try.runUnderlying42 rfl Try.sizeOf9 rfl rfl) (fun a hf => ?_)
                refine D.val hf (v := .string (ba xk1.Name)) rfl rfl rfl (V.loadBox 0 rfl rfl rfl Try.isAgg9 Try.sizeOf9 rfl rfl) (fun a hf => ?_)
                refine D.val hf (v := .slice tA t.length tC) rfl rfl rfl (V.pure rfl) (fun a hf => ?_)
                refine D.val hf (v := .int .i64 (k1 : Int)) rfl rfl rfl (V.pure rfl) (fun a hf => ?_)
                refine D.val hf (v := .int .i64 (w64 ((k1 : Int) - 1))) rfl rfl rfl (V.pure rfl) (fun a hf => ?_)
                obtain ⟨h0x1, x1, hx1, h⟩ := h
                refine D.val hf (v := elemPtr tA ((w64 ((k1 : Int) - 1)).toNat * 4)) rfl rfl rfl (V.index rfl rfl rfl Try.runUnderlying23 Try.sizeOf42 (hv_t.some_ (lt_of_get hx1)) h0x1 (lt_of_get hx1) rfl) (fun a hf => ?_)
                refine D.val hf (v := elemPtr tA ((w64 ((k1 : Int) - 1)).toNat * 4)) rfl rfl rfl (V.fieldEl rfl rfl (hv_t.some_ (lt_of_get hx1)) Try.runUnderlying42 rfl Try.sizeOf9 rfl rfl) (fun a hf => ?_)
                refine D.val hf (v := .string (ba x1.Name)) rfl rfl rfl (V.loadEl (off := 0) (Ag.args _ _ _) (hv_t.flat hx1) rfl rfl rfl Try.isAgg9 Try.sizeOf9 rfl rfl) (fun a hf => ?_)
                refine D.val hf (v := .bool (strLt xk1.Name x1.Name || xk1.Name == x1.Name)) rfl rfl rfl (V.strCmp (strLt xk1.Name x1.Name || xk1.Name == x1.Name) rfl rfl rfl rfl) (fun a hf => ?_)
                refine D.val hf (v := .bool (strLt xk1.Name x1.Name || xk1.Name == x1.Name)) rfl rfl rfl (V.pure rfl) (fun a hf => ?_)
                refine D.val hf (v := .bool (strLt xk1.Name x1.Name || xk1.Name == x1.Name)) rfl rfl rfl (V.pure rfl) (fun a hf => ?_)
                refine D.done (fun w hs => ?_)
                refine X.then_ ?_
                exact ⟨(strLt xk1.Name x1.Name || xk1.Name == x1.Name), h, (((((hf.nil.cons (hf.get 37 _ rfl)).cons (hf.get 10 _ rfl)).cons (hf.get 9 _ rfl)).cons (hf.get 8 _ rfl)).cons (hf.get 0 _ rfl)), hs⟩
              · replace h := h.2 hc
                refine D.skip hf rfl rfl rfl (fun a hf => ?_)
                refine D.skip hf rfl rfl rfl (fun a hf => ?_)
                refine D.skip hf rfl rfl rfl (fun a hf => ?_)
                refine D.skip hf rfl rfl rfl (fun a hf => ?_)
                refine D.skip hf rfl rfl rfl (fun a hf => ?_)
                refine D.skip hf rfl rfl rfl (fun a hf => ?_)
                refine D.skip hf rfl rfl rfl (fun a hf => ?_)
                refine D.skip hf rfl rfl rfl (fun a hf => ?_)
                refine D.skip hf rfl rfl rfl (fun a hf => ?_)
                refine D.val hf (v := .bool false) rfl rfl rfl (V.pure rfl) (fun a hf => ?_)
                refine D.val hf (v := .bool false) rfl rfl rfl (V.pure rfl) (fun a hf => ?_)
                refine D.done (fun w hs => ?_)
                refine X.then_ ?_
                exact ⟨false, h, (((((hf.nil.cons (hf.get 37 _ rfl)).cons (hf.get 10 _ rfl)).cons (hf.get 9 _ rfl)).cons (hf.get 8 _ rfl)).cons (hf.get 0 _ rfl)), hs⟩
        · skip
          refine R.list ?_
          refine S.val hf hs (v := .pointer (some ⟨g1, 1, none⟩)) rfl rfl rfl (V.fieldBox rfl rfl Try.runUnderlying42 rfl Try.sizeOf3 rfl rfl) (fun a hf => ?_)
          refine S.val hf hs (v := .int .i64 xk1.Size) rfl rfl rfl (V.loadBox 0 rfl rfl rfl Try.isAgg3 Try.sizeOf3 rfl rfl) (fun a hf => ?_)
          refine S.callv hf rfl rfl rfl (call_fn (vs := [.int .i64 xk1.Size, .int .i64 1, .int .i64 10000]) rfl rfl rfl Try.call17) (C_ref8_within xk1.Size 1 10000 _ ) (fun a w hf hs' => ?_)
          replace hs := hs.call hs'; clear hs'
          refine S.val hf hs (v := .bool (!(within xk1.Size 1 10000))) rfl rfl rfl (V.pure rfl) (fun a hf => ?_)
          refine S.split hf hs (b := !(within xk1.Size 1 10000)) rfl rfl rfl (V.pure rfl) (fun hc a hf => ?_) (fun hc a hf => ?_)
          · replace h := h.1 hc
            refine S.skip hf rfl rfl rfl (fun a hf => ?_)
            refine S.skip hf rfl rfl rfl (fun a hf => ?_)
            refine S.skip hf rfl rfl rfl (fun a hf => ?_)
            refine S.skip hf rfl rfl rfl (fun a hf => ?_)
            refine S.val hf hs (v := .bool true) rfl rfl rfl (V.pure rfl) (fun a hf => ?_)
            refine S.val hf hs (v := .bool true) rfl rfl rfl (V.pure rfl) (fun a hf => ?_)
            refine S.skip hf rfl rfl rfl (fun a hf => ?_)
            refine S.skip hf rfl rfl rfl (fun a hf => ?_)
            refine S.skip hf rfl rfl rfl (fun a hf => ?_)
            refine S.skip hf rfl rfl rfl (fun a hf => ?_)
            refine S.val hf hs (v := .bool true) rfl rfl rfl (V.pure rfl) (fun a hf => ?_)
            refine S.val hf hs (v := .bool true) rfl rfl rfl (V.pure rfl) (fun a hf => ?_)
            refine R.nil ?_
            refine X.then_ ?_
            exact ⟨true, h, (((((((hf.nil.cons (hf.get 20 _ rfl)).cons (hf.get 10 _ rfl)).cons (hf.get 9 _ rfl)).cons (hf.get 8 _ rfl)).cons (hf.get 4 _ rfl)).cons (hf.get 3 _ rfl)).cons (hf.get 0 _ rfl)), hs⟩
          · replace h := h.2 hc
            refine S.val hf hs (v := .pointer (some ⟨g1, 2, none⟩)) rfl rfl rfl (V.fieldBox rfl rfl Try.runUnderlying42 rfl Try.sizeOf3 rfl rfl) (fun a hf => ?_)
            refine S.val hf hs (v := .int .i64 xk1.Life) rfl rfl rfl (V.loadBox 0 rfl rfl rfl Try.isAgg3 Try.sizeOf3 rfl rfl) (fun a hf => ?_)
            refine S.callv hf rfl rfl rfl (call_fn (vs := [.int .i64 xk1.Life, .int .i64 1, .int .i64 2000]) rfl rfl rfl Try.call17) (C_ref8_within xk1.Life 1 2000 _ ) (fun a w hf hs' => ?_)
            replace hs := hs.call hs'; clear hs'
            refine S.val hf hs (v := .bool (!(within xk1.Life 1 2000))) rfl rfl rfl (V.pure rfl) (fun a hf => ?_)
            refine S.val hf hs (v := .bool (!(within xk1.Life 1 2000))) rfl rfl rfl (V.pure rfl) (fun a hf => ?_)
            refine S.split hf hs (b := !(within xk1.Life 1 2000)) rfl rfl rfl (V.pure rfl) (fun hc a hf => ?_) (fun hc a hf => ?_)
            · replace h := h.1 hc
              refine S.skip hf rfl rfl rfl (fun a hf => ?_)
              refine S.skip hf rfl rfl rfl (fun a hf => ?_)
              refine S.skip hf rfl rfl rfl (fun a hf => ?_)
              refine S.skip hf rfl rfl rfl (fun a hf => ?_)
              refine S.val hf hs (v := .bool true) rfl rfl rfl (V.pure rfl) (fun a hf => ?_)
              refine S.val hf hs (v := .bool true) rfl rfl rfl (V.pure rfl) (fun a hf => ?_)
              refine R.nil ?_
              refine X.then_ ?_
              exact ⟨true, h, (((((((hf.nil.cons (hf.get 20 _ rfl)).cons (hf.get 10 _ rfl)).cons (hf.get 9 _ rfl)).cons (hf.get 8 _ rfl)).cons (hf.get 4 _ rfl)).cons (hf.get 3 _ rfl)).cons (hf.get 0 _ rfl)), hs⟩
            · replace h := h.2 hc
              refine S.val hf hs (v := .pointer (some ⟨g1, 3, none⟩)) rfl rfl rfl (V.fieldBox rfl rfl Try.runUnderlying42 rfl Try.sizeOf3 rfl rfl) (fun a hf => ?_)
              refine S.val hf hs (v := .int .i64 xk1.Stack) rfl rfl rfl (V.loadBox 0 rfl rfl rfl Try.isAgg3 Try.sizeOf3 rfl rfl) (fun a hf => ?_)
              refine S.callv hf rfl rfl rfl (call_fn (vs := [.int .i64 xk1.Stack, .int .i64 0, .int .i64 1000]) rfl rfl rfl Try.call17) (C_ref8_within xk1.Stack 0 1000 _ ) (fun a w hf hs' => ?_)
              replace hs := hs.call hs'; clear hs'
              refine S.val hf hs (v := .bool (!(within xk1.Stack 0 1000))) rfl rfl rfl (V.pure rfl) (fun a hf => ?_)
              refine S.val hf hs (v := .bool (!(within xk1.Stack 0 1000))) rfl rfl rfl (V.pure rfl) (fun a hf => ?_)
              refine S.val hf hs (v := .bool (!(within xk1.Stack 0 1000))) rfl rfl rfl (V.pure rfl) (fun a hf => ?_)
              refine R.nil ?_
              refine X.then_ ?_
              exact ⟨(!(within xk1.Stack 0 1000)), h, (((((((hf.nil.cons (hf.get 20 _ rfl)).cons (hf.get 10 _ rfl)).cons (hf.get 9 _ rfl)).cons (hf.get 8 _ rfl)).cons (hf.get 4 _ rfl)).cons (hf.get 3 _ rfl)).cons (hf.get 0 _ rfl)), hs⟩

def M_sort_int (s_ : (List Int)) (Q : (List Int) → Prop) : Prop :=
  must (s_.length < 4611686018427387904) (Q (sortInts s_))
theorem R_sort_int (s_ : (List Int)) (w0 : World) (F0 : Nat → Prop) (s_A : Option Addr) (s_C : Nat) (hs0 : Sat w0 F0 [hown 3 s_A s_C s_] w0) (Q : (List Int) → Prop) (h : M_sort_int s_ Q) :
    Ret Try.prog 12 #[.slice s_A s_.length s_C] w0 fun v w' => ∃ (s_1 : (List Int)) (hl_s_1 : s_1.length = s_.length), v = .tuple #[] ∧ Q s_1 ∧ Sat w0 F0 [hown 3 s_A s_C s_1] w' := by
  obtain ⟨hlen, h⟩ := h
  refine Calls.mono (sortInt_run (P := Try.prog) Try.laysSlgm5_12 hs0 hlen) ?_
  rintro e w' ⟨v, rfl, rfl, hs⟩
  exact ⟨_, rfl, _, List.length_mergeSort _, rfl, h, hs⟩

set_option linter.unusedVariables false
def M_compact_int_L2 (s_ : (List Int)) (Q : (List Int) → Prop) (n2 : Int) (again2 : List Int → Int → Int → Prop) (l2 : List Int) (n5 : Int) (n6 : Int) : Prop :=
  cnd (decide (n6 < ((seg l2 n2 (s_.length : Int)).length : Int))) (idx (seg l2 n2 (s_.length : Int)) n6 fun x3 => idx (seg l2 n2 (s_.length : Int)) (w64 (n6 - 1)) fun x4 => cnd (x3 != x4) (idx l2 n5 fun x5 => again2 (l2.set n5.toNat x3) (w64 (n5 + 1)) (w64 (n6 + 1))) (again2 l2 n5 (w64 (n6 + 1)))) (must (0 ≤ n5 ∧ n5 ≤ (l2.length : Int) ∧ (l2.length : Int) ≤ (l2.length : Int)) (must (0 ≤ n5 ∧ n5 ≤ ((zeroed l2 n5 (l2.length : Int) 0).length : Int)) (Q ((zeroed l2 n5 (l2.length : Int) 0).take n5.toNat))))
def M_compact_int_L1 (s_ : (List Int)) (Q : (List Int) → Prop) (again1 : Int → Prop) (n2 : Int) : Prop :=
  cnd (decide (n2 < (s_.length : Int))) (idx s_ n2 fun x1 => idx s_ (w64 (n2 - 1)) fun x2 => cnd (x1 == x2) (must (0 ≤ n2 ∧ n2 ≤ (s_.length : Int) ∧ (s_.length : Int) ≤ (s_.length : Int)) (lp (fun again (s : List Int × Int × Int) => M_compact_int_L2 s_ Q n2 (fun l2 n5 n6 => again (l2, n5, n6)) s.1 s.2.1 s.2.2) (s_, n2, 1))) (again1 (w64 (n2 + 1)))) (Q s_)
def M_compact_int (s_ : (List Int)) (Q : (List Int) → Prop) : Prop :=
  cnd (decide ((s_.length : Int) < 2)) (Q s_) (lp (fun again (s : Int) => M_compact_int_L1 s_ Q (fun n2 => again n2) s) 1)
set_option maxHeartbeats 1000000 in
theorem R_compact_int (s_ : (List Int)) (w0 : World) (F0 : Nat → Prop) (s_A : Option Addr) (s_C : Nat) (hs0 : Sat w0 F0 [hown 3 s_A s_C s_] w0) (Q : (List Int) → Prop) (h : M_compact_int s_ Q) :
    Ret Try.prog 13 #[.slice s_A s_.length s_C] w0 fun v w' => ∃ (r0 : (List Int)) (r0A : Option Addr) (r0C : Nat), v = .slice r0A r0.length r0C ∧ Q r0 ∧ Sat w0 F0 [hown 3 r0A r0C r0] w' := by
  refine fn_enter Try.func13 rfl Try.ntmps13 rfl (fs := [(0, .slice s_A s_.length s_C)]) rfl (fun a hf => ?_)
  have hs := hs0
  unfold M_compact_int at h
  refine wp_seq ?_
  refine R.list ?_
  refine S.val hf hs (v := .slice none 0 0) rfl rfl rfl (V.pure rfl) (fun a hf => ?_)
  refine R.nil ?_
  refine X.then_ ?_
  refine wp_seq ?_
  refine wp_seq ?_
  refine R.list ?_
  refine S.val hf hs (v := .slice s_A s_.length s_C) rfl rfl rfl (V.pure rfl) (fun a hf => ?_)
  refine S.val hf hs (v := .int .i64 (s_.length : Int)) rfl rfl rfl (V.len rfl rfl Try.runUnderlying24) (fun a hf => ?_)
  refine S.val hf hs (v := .bool (decide ((s_.length : Int) < 2))) rfl rfl rfl (V.pure rfl) (fun a hf => ?_)
  refine R.nil ?_
  refine X.then_ ?_
  refine C.cond hf (b := decide ((s_.length : Int) < 2)) rfl (fun hc => ?_) (fun hc => ?_)
  · replace h := h.1 hc
    refine wp_seq ?_
    refine R.list ?_
    refine S.val hf hs (v := .slice s_A s_.length s_C) rfl rfl rfl (V.pure rfl) (fun a hf => ?_)
    refine S.val hf hs (v := .slice s_A s_.length s_C) rfl rfl rfl (V.pure rfl) (fun a hf => ?_)
    refine R.nil ?_
    refine X.then_ ?_
    refine wp_ret ?_
    refine X.then_ret ?_
    replace hs := hs.take 1
    exact L.ret hf (run_results1 Try.results13 (ResIs.tmp hf rfl)) ⟨s_, s_A, s_C, rfl, h, hs⟩
  · replace h := h.2 hc
    refine wp_skip ?_
    refine X.then_ ?_
    refine wp_seq ?_
    refine wp_seq ?_
    refine R.list ?_
    refine S.val hf hs (v := .int .i64 1) rfl rfl rfl (V.pure rfl) (fun a hf => ?_)
    refine R.nil ?_
    refine X.then_ ?_
    refine wp_block ?_
    obtain ⟨kk, h⟩ := h
    refine C.loop (fun kk a w => ∃ (n2 : Int), iterF (fun again (s : Int) => M_compact_int_L1 s_ Q (fun n2 => again n2) s) kk n2 ∧ FrOk 61 [(0, .slice s_A s_.length s_C), (3, .int .i64 n2)] a ∧ Sat w0 F0 [hown 3 s_A s_C s_] w) kk ⟨1, h, ((hf.nil.cons (hf.get 3 _ rfl)).cons (hf.get 0 _ rfl)), hs⟩ (fun a w ⟨_, h, _, _⟩ => h) ?_
    clear h hf hs
    rintro kk a w ⟨n2, h, hf, hs⟩
    obtain ⟨again1, hagain1⟩ : ∃ X : Int → Prop, X = (fun n2 => iterF (fun again (s : Int) => M_compact_int_L1 s_ Q (fun n2 => again n2) s) kk n2) := ⟨_, rfl⟩
    replace h : M_compact_int_L1 s_ Q again1 n2 := by rw [hagain1]; exact h
    unfold M_compact_int_L1 at h
    refine wp_seq ?_
    refine wp_seq ?_
    refine R.list ?_
    refine S.val hf hs (v := .int .i64 n2) rfl rfl rfl (V.pure rfl) (fun a hf => ?_)
    refine S.val hf hs (v := .slice s_A s_.length s_C) rfl rfl rfl (V.pure rfl) (fun a hf => ?_)
    refine S.val hf hs (v := .int .i64 (s_.length : Int)) rfl rfl rfl (V.len rfl rfl Try.runUnderlying24) (fun a hf => ?_)
    refine S.val hf hs (v := .bool (decide (n2 < (s_.length : Int)))) rfl rfl rfl (V.pure rfl) (fun a hf => ?_)
    refine R.nil ?_
    refine X.then_ ?_
    refine C.cond hf (b := decide (n2 < (s_.length : Int))) rfl (fun hc => ?_) (fun hc => ?_)
    · replace h := h.1 hc
      refine wp_skip ?_
      refine X.then_ ?_
      refine wp_seq ?_
      refine wp_block ?_
      refine wp_seq ?_
      refine R.draw mo (by kernel_rfl) hs ?_
      refine D.val hf (v := .slice s_A s_.length s_C) rfl rfl rfl (V.pure rfl) (fun a hf => ?_)
      refine D.val hf (v := .int .i64 n2) rfl rfl rfl (V.pure rfl) (fun a hf => ?_)
      obtain ⟨h0x1, x1, hx1, h⟩ := h
      refine D.val hf (v := elemPtr s_A (n2.toNat * 1)) rfl rfl rfl (V.index rfl rfl rfl Try.runUnderlying24 Try.sizeOf3 (hs.ownSome 0 rfl (lt_of_get hx1)) h0x1 (lt_of_get hx1) rfl) (fun a hf => ?_)
      refine D.val hf (v := .int .i64 x1) rfl rfl rfl (V.loadOwn (off := 0) 0 rfl hx1 rfl rfl rfl Try.isAgg3 Try.sizeOf3 rfl rfl) (fun a hf => ?_)
      refine D.val hf (v := .slice s_A s_.length s_C) rfl rfl rfl (V.pure rfl) (fun a hf => ?_)
      refine D.val hf (v := .int .i64 n2) rfl rfl rfl (V.pure rfl) (fun a hf => ?_)
      refine D.val hf (v := .int .i64 (w64 (n2 - 1))) rfl rfl rfl (V.pure rfl) (fun a hf => ?_)
      obtain ⟨h0x2, x2, hx2, h⟩ := h
      refine D.val hf (v := elemPtr s_A ((w64 (n2 - 1)).toNat * 1)) rfl rfl rfl (V.index rfl rfl rfl Try.runUnderlying24 Try.sizeOf3 (hs.ownSome 0 rfl (lt_of_get hx2)) h0x2 (lt_of_get hx2) rfl) (fun a hf => ?_)
      refine D.val hf (v := .int .i64 x2) rfl rfl rfl (V.loadOwn (off := 0) 0 rfl hx2 rfl rfl rfl Try.isAgg3 Try.sizeOf3 rfl rfl) (fun a hf => ?_)
      refine D.val hf (v := .bool (x1 == x2)) rfl rfl rfl (V.pure rfl) (fun a hf => ?_)
      refine D.done (fun w hs => ?_)
      refine X.then_ ?_
      refine C.cond hf (b := x1 == x2) rfl (fun hc => ?_) (fun hc => ?_)
      · replace h := h.1 hc
        refine wp_seq ?_
        refine R.list ?_
        refine S.val hf hs (v := .slice s_A s_.length s_C) rfl rfl rfl (V.pure rfl) (fun a hf => ?_)
        refine S.val hf hs (v := .int .i64 n2) rfl rfl rfl (V.pure rfl) (fun a hf => ?_)
        obtain ⟨hp1, h⟩ := h
        refine S.val hf hs (v := .slice (segA s_A s_C (n2 : Int).toNat 1) (seg s_ n2 (s_.length : Int)).length (s_C - (n2 : Int).toNat)) rfl rfl rfl (V.slice rfl rfl rfl rfl Try.runUnderlying24 Try.sizeOf3 rfl rfl hp1 (hs.ownView 0 rfl).cap (seg_length (by have := hp1.2.2; omega))) (fun a hf => ?_)
        refine S.val hf hs (v := .slice (segA s_A s_C (n2 : Int).toNat 1) (seg s_ n2 (s_.length : Int)).length (s_C - (n2 : Int).toNat)) rfl rfl rfl (V.pure rfl) (fun a hf => ?_)
        refine R.nil ?_
        refine X.then_ ?_
        refine wp_seq ?_
        refine wp_seq ?_
        refine R.list ?_
        refine S.val hf hs (v := .int .i64 1) rfl rfl rfl (V.pure rfl) (fun a hf => ?_)
        refine R.nil ?_
        refine X.then_ ?_
        refine wp_block ?_
        obtain ⟨kk, h⟩ := h
        refine C.loop (fun kk a w => ∃ (l2 : List Int) (hl_l2 : l2.length = s_.length) (n5 : Int) (hp_l2 : 0 ≤ n2 ∧ n2 ≤ (s_.length : Int) ∧ (s_.length : Int) ≤ (l2.length : Int)) (n6 : Int), iterF (fun again (s : List Int × Int × Int) => M_compact_int_L2 s_ Q n2 (fun l2 n5 n6 => again (l2, n5, n6)) s.1 s.2.1 s.2.2) kk (l2, n5, n6) ∧ FrOk 61 [(0, .slice s_A l2.length s_C), (3, .int .i64 n5), (4, .slice (segA s_A s_C (n2 : Int).toNat 1) (seg l2 n2 (s_.length : Int)).length (s_C - (n2 : Int).toNat)), (5, .int .i64 n6)] a ∧ Sat w0 F0 [hown 3 s_A s_C l2] w) kk ⟨s_, rfl, n2, hp1, 1, h, ((((hf.nil.cons (hf.get 5 _ rfl)).cons (hf.get 4 _ rfl)).cons (hf.get 3 _ rfl)).cons (hf.get 0 _ rfl)), hs⟩ (fun a w ⟨_, _, _, _, _, h, _, _⟩ => h) ?_
        clear h hf hs
        rintro kk a w ⟨l2, hl_l2, n5, hp_l2, n6, h, hf, hs⟩
        obtain ⟨again2, hagain2⟩ : ∃ X : List Int → Int → Int → Prop, X = (fun l2 n5 n6 => iterF (fun again (s : List Int × Int × Int) => M_compact_int_L2 s_ Q n2 (fun l2 n5 n6 => again (l2, n5, n6)) s.1 s.2.1 s.2.2) kk (l2, n5, n6)) := ⟨_, rfl⟩
        replace h : M_compact_int_L2 s_ Q n2 again2 l2 n5 n6 := by rw [hagain2]; exact h
        unfold M_compact_int_L2 at h
        refine wp_seq ?_
        refine wp_seq ?_
        refine R.list ?_
        refine S.val hf hs (v := .int .i64 n6) rfl rfl rfl (V.pure rfl) (fun a hf => ?_)
        refine S.val hf hs (v := .slice (segA s_A s_C (n2 : Int).toNat 1) (seg l2 n2 (s_.length : Int)).length (s_C - (n2 : Int).toNat)) rfl rfl rfl (V.pure rfl) (fun a hf => ?_)
        refine S.val hf hs (v := .int .i64 ((seg l2 n2 (s_.length : Int)).length : Int)) rfl rfl rfl (V.len rfl rfl Try.runUnderlying24) (fun a hf => ?_)
        refine S.val hf hs (v := .bool (decide (n6 < ((seg l2 n2 (s_.length : Int)).length : Int)))) rfl rfl rfl (V.pure rfl) (fun a hf => ?_)
        refine R.nil ?_
        refine X.then_ ?_
        refine C.cond hf (b := decide (n6 < ((seg l2 n2 (s_.length : Int)).length : Int))) rfl (fun hc => ?_) (fun hc => ?_)
        · replace h := h.1 hc
          refine wp_skip ?_
          refine X.then_ ?_
          refine wp_seq ?_
          refine wp_block ?_
          refine wp_seq ?_
          refine R.draw mo (by kernel_rfl) hs ?_
          refine D.val hf (v := .slice (segA s_A s_C (n2 : Int).toNat 1) (seg l2 n2 (s_.length : Int)).length (s_C - (n2 : Int).toNat)) rfl rfl rfl (V.pure rfl) (fun a hf => ?_)
          refine D.val hf (v := .int .i64 n6) rfl rfl rfl (V.pure rfl) (fun a hf => ?_)
          obtain ⟨h0x3, x3, hyx3, h⟩ := h
          have hx3 := seg_get hyx3
          refine D.val hf (v := elemPtr s_A (((n2 : Int).toNat + n6.toNat) * 1)) rfl rfl rfl (V.indexSub (lo := n2) rfl rfl rfl Try.runUnderlying24 Try.sizeOf3 (hs.ownSome 0 rfl (lt_of_get hx3)) h0x3 (lt_of_get hyx3) (seg_fits hp_l2 (hs.ownView 0 rfl).cap) rfl) (fun a hf => ?_)
          refine D.val hf (v := .int .i64 x3) rfl rfl rfl (V.loadOwn (off := 0) 0 rfl hx3 rfl rfl rfl Try.isAgg3 Try.sizeOf3 rfl rfl) (fun a hf => ?_)
          refine D.val hf (v := .slice (segA s_A s_C (n2 : Int).toNat 1) (seg l2 n2 (s_.length : Int)).length (s_C - (n2 : Int).toNat)) rfl rfl rfl (V.pure rfl) (fun a hf => ?_)
          refine D.val hf (v := .int .i64 n6) rfl rfl rfl (V.pure rfl) (fun a hf => ?_)
          refine D.val hf (v := .int .i64 (w64 (n6 - 1))) rfl rfl rfl (V.pure rfl) (fun a hf => ?_)
          obtain ⟨h0x4, x4, hyx4, h⟩ := h
          have hx4 := seg_get hyx4
          refine D.val hf (v := elemPtr s_A (((n2 : Int).toNat + (w64 (n6 - 1)).toNat) * 1)) rfl rfl rfl (V.indexSub (lo := n2) rfl rfl rfl Try.runUnderlying24 Try.sizeOf3 (hs.ownSome 0 rfl (lt_of_get hx4)) h0x4 (lt_of_get hyx4) (seg_fits hp_l2 (hs.ownView 0 rfl).cap) rfl) (fun a hf => ?_)
          refine D.val hf (v := .int .i64 x4) rfl rfl rfl (V.loadOwn (off := 0) 0 rfl hx4 rfl rfl rfl Try.isAgg3 Try.sizeOf3 rfl rfl) (fun a hf => ?_)
          refine D.val hf (v := .bool (x3 != x4)) rfl rfl rfl (V.pure rfl) (fun a hf => ?_)
          refine D.done (fun w hs => ?_)
          refine X.then_ ?_
          refine C.cond hf (b := x3 != x4) rfl (fun hc => ?_) (fun hc => ?_)
          · replace h := h.1 hc
            refine wp_seq ?_
            refine R.list ?_
            refine S.val hf hs (v := .slice s_A l2.length s_C) rfl rfl rfl (V.pure rfl) (fun a hf => ?_)
            refine S.val hf hs (v := .int .i64 n5) rfl rfl rfl (V.pure rfl) (fun a hf => ?_)
            refine S.val hf hs (v := .slice (segA s_A s_C (n2 : Int).toNat 1) (seg l2 n2 (s_.length : Int)).length (s_C - (n2 : Int).toNat)) rfl rfl rfl (V.pure rfl) (fun a hf => ?_)
            refine S.val hf hs (v := .int .i64 n6) rfl rfl rfl (V.pure rfl) (fun a hf => ?_)
            refine S.val hf hs (v := elemPtr s_A (((n2 : Int).toNat + n6.toNat) * 1)) rfl rfl rfl (V.indexSub (lo := n2) rfl rfl rfl Try.runUnderlying24 Try.sizeOf3 (hs.ownSome 0 rfl (lt_of_get hx3)) h0x3 (lt_of_get hyx3) (seg_fits hp_l2 (hs.ownView 0 rfl).cap) rfl) (fun a hf => ?_)
            refine S.val hf hs (v := .int .i64 x3) rfl rfl rfl (V.loadOwn (off := 0) 0 rfl hx3 rfl rfl rfl Try.isAgg3 Try.sizeOf3 rfl rfl) (fun a hf => ?_)
            obtain ⟨h0x5, x5, hx5, h⟩ := h
            refine S.val hf hs (v := elemPtr s_A (n5.toNat * 1)) rfl rfl rfl (V.index rfl rfl rfl Try.runUnderlying24 Try.sizeOf3 (hs.ownSome 0 rfl (lt_of_get hx5)) h0x5 (lt_of_get hx5) rfl) (fun a hf => ?_)
            refine S.storeOwn (off := 0) 0 hf hs rfl rfl x3 [.int .i64 x3] rfl hx5 rfl rfl rfl rfl rfl Try.sizeOf3 rfl (by decide) rfl rfl (fun a w hf hs => ?_)
            replace hf := hf.tell 0 (v := .slice s_A (l2.set n5.toNat x3).length s_C) ((hf.get 0 (.slice s_A l2.length s_C) rfl).trans (congrArg (fun n => Value.slice s_A n s_C) List.length_set.symm))
            have hp2 : 0 ≤ n2 ∧ n2 ≤ (s_.length : Int) ∧ (s_.length : Int) ≤ ((l2.set n5.toNat x3).length : Int) := by rw [List.length_set]; exact hp_l2
            replace hf := hf.tell 4 (v := .slice (segA s_A s_C (n2 : Int).toNat 1) (seg (l2.set n5.toNat x3) n2 (s_.length : Int)).length (s_C - (n2 : Int).toNat)) ((hf.get 4 (.slice (segA s_A s_C (n2 : Int).toNat 1) (seg l2 n2 (s_.length : Int)).length (s_C - (n2 : Int).toNat)) rfl).trans (congrArg (fun n => Value.slice (segA s_A s_C (n2 : Int).toNat 1) n (s_C - (n2 : Int).toNat)) (seg_len_eq List.length_set).symm))
            have hp3 : 0 ≤ n2 ∧ n2 ≤ (s_.length : Int) ∧ (s_.length : Int) ≤ ((l2.set n5.toNat x3).length : Int) := by rw [List.length_set]; exact hp_l2
            replace hf := hf.tell 30 (v := .slice (segA s_A s_C (n2 : Int).toNat 1) (seg (l2.set n5.toNat x3) n2 (s_.length : Int)).length (s_C - (n2 : Int).toNat)) ((hf.get 30 (.slice (segA s_A s_C (n2 : Int).toNat 1) (seg l2 n2 (s_.length : Int)).length (s_C - (n2 : Int).toNat)) rfl).trans (congrArg (fun n => Value.slice (segA s_A s_C (n2 : Int).toNat 1) n (s_C - (n2 : Int).toNat)) (seg_len_eq List.length_set).symm))
            have hp4 : 0 ≤ n2 ∧ n2 ≤ (s_.length : Int) ∧ (s_.length : Int) ≤ ((l2.set n5.toNat x3).length : Int) := by rw [List.length_set]; exact hp_l2
            replace hf := hf.tell 35 (v := .slice (segA s_A s_C (n2 : Int).toNat 1) (seg (l2.set n5.toNat x3) n2 (s_.length : Int)).length (s_C - (n2 : Int).toNat)) ((hf.get 35 (.slice (segA s_A s_C (n2 : Int).toNat 1) (seg l2 n2 (s_.length : Int)).length (s_C - (n2 : Int).toNat)) rfl).trans (congrArg (fun n => Value.slice (segA s_A s_C (n2 : Int).toNat 1) n (s_C - (n2 : Int).toNat)) (seg_len_eq List.length_set).symm))
            have hp5 : 0 ≤ n2 ∧ n2 ≤ (s_.length : Int) ∧ (s_.length : Int) ≤ ((l2.set n5.toNat x3).length : Int) := by rw [List.length_set]; exact hp_l2
            replace hf := hf.tell 39 (v := .slice (segA s_A s_C (n2 : Int).toNat 1) (seg (l2.set n5.toNat x3) n2 (s_.length : Int)).length (s_C - (n2 : Int).toNat)) ((hf.get 39 (.slice (segA s_A s_C (n2 : Int).toNat 1) (seg l2 n2 (s_.length : Int)).length (s_C - (n2 : Int).toNat)) rfl).trans (congrArg (fun n => Value.slice (segA s_A s_C (n2 : Int).toNat 1) n (s_C - (n2 : Int).toNat)) (seg_len_eq List.length_set).symm))
            replace hf := hf.tell 45 (v := .slice s_A (l2.set n5.toNat x3).length s_C) ((hf.get 45 (.slice s_A l2.length s_C) rfl).trans (congrArg (fun n => Value.slice s_A n s_C) List.length_set.symm))
            have hp6 : 0 ≤ n2 ∧ n2 ≤ (s_.length : Int) ∧ (s_.length : Int) ≤ ((l2.set n5.toNat x3).length : Int) := by rw [List.length_set]; exact hp_l2
            replace hf := hf.tell 47 (v := .slice (segA s_A s_C (n2 : Int).toNat 1) (seg (l2.set n5.toNat x3) n2 (s_.length : Int)).length (s_C - (n2 : Int).toNat)) ((hf.get 47 (.slice (segA s_A s_C (n2 : Int).toNat 1) (seg l2 n2 (s_.length : Int)).length (s_C - (n2 : Int).toNat)) rfl).trans (congrArg (fun n => Value.slice (segA s_A s_C (n2 : Int).toNat 1) n (s_C - (n2 : Int).toNat)) (seg_len_eq List.length_set).symm))
            refine R.nil ?_
            refine X.then_ ?_
            refine R.list ?_
            refine S.val hf hs (v := .int .i64 n5) rfl rfl rfl (V.pure rfl) (fun a hf => ?_)
            refine S.val hf hs (v := .int .i64 (w64 (n5 + 1))) rfl rfl rfl (V.pure rfl) (fun a hf => ?_)
            refine S.val hf hs (v := .int .i64 (w64 (n5 + 1))) rfl rfl rfl (V.pure rfl) (fun a hf => ?_)
            refine R.nil ?_
            refine X.blk ?_
            refine X.then_ ?_
            refine R.list ?_
            refine S.val hf hs (v := .int .i64 n6) rfl rfl rfl (V.pure rfl) (fun a hf => ?_)
            refine S.val hf hs (v := .int .i64 (w64 (n6 + 1))) rfl rfl rfl (V.pure rfl) (fun a hf => ?_)
            refine S.val hf hs (v := .int .i64 (w64 (n6 + 1))) rfl rfl rfl (V.pure rfl) (fun a hf => ?_)
            refine R.nil ?_
            refine X.then_ ?_
            exact ⟨(l2.set n5.toNat x3), (List.length_set.trans hl_l2), (w64 (n5 + 1)), hp2, (w64 (n6 + 1)), (by rw [hagain2] at h; exact h), ((((hf.nil.cons (hf.get 5 _ rfl)).cons (hf.get 4 _ rfl)).cons (hf.get 3 _ rfl)).cons (hf.get 0 _ rfl)), hs⟩
          · replace h := h.2 hc
            refine wp_skip ?_
            refine X.blk ?_
            refine X.then_ ?_
            refine R.list ?_
            refine S.val hf hs (v := .int .i64 n6) rfl rfl rfl (V.pure rfl) (fun a hf => ?_)
            refine S.val hf hs (v := .int .i64 (w64 (n6 + 1))) rfl rfl rfl (V.pure rfl) (fun a hf => ?_)
            refine S.val hf hs (v := .int .i64 (w64 (n6 + 1))) rfl rfl rfl (V.pure rfl) (fun a hf => ?_)
            refine R.nil ?_
            refine X.then_ ?_
            exact ⟨l2, hl_l2, n5, hp_l2, (w64 (n6 + 1)), (by rw [hagain2] at h; exact h), ((((hf.nil.cons (hf.get 5 _ rfl)).cons (hf.get 4 _ rfl)).cons (hf.get 3 _ rfl)).cons (hf.get 0 _ rfl)), hs⟩
        · replace h := h.2 hc
          refine wp_exit ?_
          refine X.then_exit ?_
          refine X.then_exit ?_
          refine X.blk_exit ?_
          refine X.then_ ?_
          refine wp_seq ?_
          refine R.list ?_
          refine S.val hf hs (v := .slice s_A l2.length s_C) rfl rfl rfl (V.pure rfl) (fun a hf => ?_)
          refine S.val hf hs (v := .int .i64 n5) rfl rfl rfl (V.pure rfl) (fun a hf => ?_)
          obtain ⟨hp7, h⟩ := h
          refine S.val hf hs (v := .slice (segA s_A s_C (n5 : Int).toNat 1) (seg l2 n5 (l2.length : Int)).length (s_C - (n5 : Int).toNat)) rfl rfl rfl (V.slice rfl rfl rfl rfl Try.runUnderlying24 Try.sizeOf3 rfl rfl hp7 (hs.ownView 0 rfl).cap (seg_length (by have := hp7.2.2; omega))) (fun a hf => ?_)
          refine S.clearSub 0 hf hs rfl rfl (0 : Int) (lo := n5) (hi := (l2.length : Int)) rfl rfl rfl rfl Try.underlying24 info3 hp7 (fun a w hf hs => ?_)
          replace hf := hf.tell 0 (v := .slice s_A (zeroed l2 n5 (l2.length : Int) 0).length s_C) ((hf.get 0 (.slice s_A l2.length s_C) rfl).trans (congrArg (fun n => Value.slice s_A n s_C) zeroed_length.symm))
          have hp8 : 0 ≤ n2 ∧ n2 ≤ (s_.length : Int) ∧ (s_.length : Int) ≤ ((zeroed l2 n5 (l2.length : Int) 0).length : Int) := by rw [zeroed_length]; exact hp_l2
          replace hf := hf.tell 4 (v := .slice (segA s_A s_C (n2 : Int).toNat 1) (seg (zeroed l2 n5 (l2.length : Int) 0) n2 (s_.length : Int)).length (s_C - (n2 : Int).toNat)) ((hf.get 4 (.slice (segA s_A s_C (n2 : Int).toNat 1) (seg l2 n2 (s_.length : Int)).length (s_C - (n2 : Int).toNat)) rfl).trans (congrArg (fun n => Value.slice (segA s_A s_C (n2 : Int).toNat 1) n (s_C - (n2 : Int).toNat)) (seg_len_eq zeroed_length).symm))
          have hp9 : 0 ≤ n2 ∧ n2 ≤ (s_.length : Int) ∧ (s_.length : Int) ≤ ((zeroed l2 n5 (l2.length : Int) 0).length : Int) := by rw [zeroed_length]; exact hp_l2
          replace hf := hf.tell 30 (v := .slice (segA s_A s_C (n2 : Int).toNat 1) (seg (zeroed l2 n5 (l2.length : Int) 0) n2 (s_.length : Int)).length (s_C - (n2 : Int).toNat)) ((hf.get 30 (.slice (segA s_A s_C (n2 : Int).toNat 1) (seg l2 n2 (s_.length : Int)).length (s_C - (n2 : Int).toNat)) rfl).trans (congrArg (fun n => Value.slice (segA s_A s_C (n2 : Int).toNat 1) n (s_C - (n2 : Int).toNat)) (seg_len_eq zeroed_length).symm))
          replace hf := hf.tell 54 (v := .slice s_A (zeroed l2 n5 (l2.length : Int) 0).length s_C) ((hf.get 54 (.slice s_A l2.length s_C) rfl).trans (congrArg (fun n => Value.slice s_A n s_C) zeroed_length.symm))
          have hp10 : 0 ≤ n5 ∧ n5 ≤ (l2.length : Int) ∧ (l2.length : Int) ≤ ((zeroed l2 n5 (l2.length : Int) 0).length : Int) := by rw [zeroed_length]; exact hp7
          replace hf := hf.tell 56 (v := .slice (segA s_A s_C (n5 : Int).toNat 1) (seg (zeroed l2 n5 (l2.length : Int) 0) n5 (l2.length : Int)).length (s_C - (n5 : Int).toNat)) ((hf.get 56 (.slice (segA s_A s_C (n5 : Int).toNat 1) (seg l2 n5 (l2.length : Int)).length (s_C - (n5 : Int).toNat)) rfl).trans (congrArg (fun n => Value.slice (segA s_A s_C (n5 : Int).toNat 1) n (s_C - (n5 : Int).toNat)) (seg_len_eq zeroed_length).symm))
          refine R.nil ?_
          refine X.then_ ?_
          refine wp_seq ?_
          refine R.list ?_
          refine S.val hf hs (v := .slice s_A (zeroed l2 n5 (l2.length : Int) 0).length s_C) rfl rfl rfl (V.pure rfl) (fun a hf => ?_)
          refine S.val hf hs (v := .int .i64 n5) rfl rfl rfl (V.pure rfl) (fun a hf => ?_)
          obtain ⟨hp11, h⟩ := h
          refine S.val hf hs (v := .slice s_A ((zeroed l2 n5 (l2.length : Int) 0).take n5.toNat).length s_C) rfl rfl rfl (V.slicePre (xs := (zeroed l2 n5 (l2.length : Int) 0)) rfl rfl rfl rfl Try.runUnderlying24 Try.sizeOf3 rfl hp11 (hs.ownView 0 rfl).cap) (fun a hf => ?_)
          refine S.val hf hs (v := .slice s_A ((zeroed l2 n5 (l2.length : Int) 0).take n5.toNat).length s_C) rfl rfl rfl (V.pure rfl) (fun a hf => ?_)
          refine R.nil ?_
          refine X.then_ ?_
          refine wp_ret ?_
          refine X.blk_ret ?_
          refine X.then_ret ?_
          refine X.then_ret ?_
          refine X.blk_ret ?_
          refine X.then_ret ?_
          replace hs := hs.shorten 0 rfl n5.toNat (by have := hp11; omega)
          replace hs := hs.take 1
          exact L.ret hf (run_results1 Try.results13 (ResIs.tmp hf rfl)) ⟨((zeroed l2 n5 (l2.length : Int) 0).take n5.toNat), s_A, s_C, rfl, h, hs⟩
      · replace h := h.2 hc
        refine wp_skip ?_
        refine X.blk ?_
        refine X.then_ ?_
        refine R.list ?_
        refine S.val hf hs (v := .int .i64 n2) rfl rfl rfl (V.pure rfl) (fun a hf => ?_)
        refine S.val hf hs (v := .int .i64 (w64 (n2 + 1))) rfl rfl rfl (V.pure rfl) (fun a hf => ?_)
        refine S.val hf hs (v := .int .i64 (w64 (n2 + 1))) rfl rfl rfl (V.pure rfl) (fun a hf => ?_)
        refine R.nil ?_
        refine X.then_ ?_
        exact ⟨(w64 (n2 + 1)), (by rw [hagain1] at h; exact h), ((hf.nil.cons (hf.get 3 _ rfl)).cons (hf.get 0 _ rfl)), hs⟩
    · replace h := h.2 hc
      refine wp_exit ?_
      refine X.then_exit ?_
      refine X.then_exit ?_
      refine X.blk_exit ?_
      refine X.then_ ?_
      refine wp_seq ?_
      refine R.list ?_
      refine S.val hf hs (v := .slice s_A s_.length s_C) rfl rfl rfl (V.pure rfl) (fun a hf => ?_)
      refine S.val hf hs (v := .slice s_A s_.length s_C) rfl rfl rfl (V.pure rfl) (fun a hf => ?_)
      refine R.nil ?_
      refine X.then_ ?_
      refine wp_ret ?_
      replace hs := hs.take 1
      exact L.ret hf (run_results1 Try.results13 (ResIs.tmp hf rfl)) ⟨s_, s_A, s_C, rfl, h, hs⟩

set_option linter.unusedVariables false
def M_drill_Sizes_L1  (k1 : Nat) (xk1 : Hole) (l2 : List Int) (next1 : List Int → Prop) : Prop :=
  must (room (l2 ++ [xk1.Size]).length 8) (next1 (l2 ++ [xk1.Size]))
def M_drill_Sizes (l : (List Hole)) (Q : (List Int) → Int → Prop) : Prop :=
  M_drill_CheckHoles l fun y1 => cnd (y1 != 0) (Q ([] : List Int) y1) (forIn' (fun k x (s : List Int) next => M_drill_Sizes_L1 k x s (fun l2 => next l2)) (fun (s : List Int) => (fun (l2 : List Int) => M_sort_int l2 fun z1 => M_compact_int z1 fun y2 => Q y2 0) s) l 0 ([] : List Int))
set_option maxHeartbeats 1000000 in
theorem R_drill_Sizes (l : (List Hole)) (w0 : World) (lA : Option Addr) (lC : Nat) (hv_l : View w0 (old w0 none_) lA lC l) (Q : (List Int) → Int → Prop) (h : M_drill_Sizes l Q) :
    Ret Try.prog 4 #[.slice lA l.length lC] w0 fun v w' => ∃ (r0 : (List Int)) (r0A : Option Addr) (r0C : Nat) (r1 : Int), v = .tuple #[.slice r0A r0.length r0C, .int .i64 r1] ∧ Q r0 r1 ∧ Sat w0 none_ [hown 3 r0A r0C r0] w' := by
  refine fn_enter Try.func4 rfl Try.ntmps4 rfl (fs := [(0, .slice lA l.length lC)]) rfl (fun a hf => ?_)
  have hs := Sat.start w0 none_
  unfold M_drill_Sizes at h
  refine wp_seq ?_
  refine R.list ?_
  refine S.val hf hs (v := .slice none 0 0) rfl rfl rfl (V.pure rfl) (fun a hf => ?_)
  refine S.val hf hs (v := .int .i64 0) rfl rfl rfl (V.pure rfl) (fun a hf => ?_)
  refine R.nil ?_
  refine X.then_ ?_
  refine wp_seq ?_
  refine wp_seq ?_
  refine R.list ?_
  refine S.val hf hs (v := .slice lA l.length lC) rfl rfl rfl (V.pure rfl) (fun a hf => ?_)
  refine S.call hf rfl rfl rfl (call_fn (vs := [.slice lA l.length lC]) rfl rfl rfl Try.call6) (R_drill_CheckHoles l _ lA lC ((Ag.args _ _ _).view hv_l hs) _ h) (fun v a w' hf hr => ?_)
  obtain ⟨y1, rfl, h2, hs2⟩ := hr
  replace h := h2; replace hs := hs.call hs2; clear h2 hs2
  refine S.val hf hs (v := .int .i64 y1) rfl rfl rfl (V.pure rfl) (fun a hf => ?_)
  refine R.nil ?_
  refine X.then_ ?_
  refine wp_seq ?_
  refine R.list ?_
  refine S.val hf hs (v := .int .i64 y1) rfl rfl rfl (V.pure rfl) (fun a hf => ?_)
  refine S.val hf hs (v := .bool (y1 != 0)) rfl rfl rfl (V.pure rfl) (fun a hf => ?_)
  refine R.nil ?_
  refine X.then_ ?_
  refine C.cond hf (b := y1 != 0) rfl (fun hc => ?_) (fun hc => ?_)
  · replace h := h.1 hc
    refine wp_seq ?_
    refine R.list ?_
    refine S.val hf hs (v := .int .i64 y1) rfl rfl rfl (V.pure rfl) (fun a hf => ?_)
    refine S.val hf hs (v := .slice none 0 0) rfl rfl rfl (V.pure rfl) (fun a hf => ?_)
    refine S.val hf hs (v := .int .i64 y1) rfl rfl rfl (V.pure rfl) (fun a hf => ?_)
    refine R.nil ?_
    refine X.then_ ?_
    refine wp_ret ?_
    refine X.then_ret ?_
    replace hs := hs.nilOwn (α := Int) 3
    replace hs := hs.take 1
    exact L.ret hf (run_results2 Try.results4 (ResIs.tmp hf rfl) (ResIs.tmp hf rfl)) ⟨([] : List Int), none, 0, y1, rfl, h, hs⟩
  · replace h := h.2 hc
    refine wp_skip ?_
    refine X.then_ ?_
    refine wp_seq ?_
    refine R.list ?_
    refine S.val hf hs (v := .slice none 0 0) rfl rfl rfl (V.pure rfl) (fun a hf => ?_)
    refine R.nil ?_
    refine X.then_ ?_
    refine wp_seq ?_
    refine wp_seq ?_
    refine R.list ?_
    refine S.val hf hs (v := .slice lA l.length lC) rfl rfl rfl (V.pure rfl) (fun a hf => ?_)
    refine S.val hf hs (v := .int .i64 (l.length : Int)) rfl rfl rfl (V.len rfl rfl Try.runUnderlying22) (fun a hf => ?_)
    refine S.val hf hs (v := .int .i64 0) rfl rfl rfl (V.pure rfl) (fun a hf => ?_)
    refine R.nil ?_
    refine X.then_ ?_
    refine wp_block ?_
    replace hs := hs.nilOwn (α := Int) 3
    have hlenk1 := hv_l.len64
    refine C.range (fun (ll : List Hole) a w => ∃ (k1 : Nat) (l2 : List Int) (l2A : Option Addr) (l2C : Nat), l.drop k1 = ll ∧ k1 + ll.length = l.length ∧ forIn' (fun k x (s : List Int) next => M_drill_Sizes_L1 k x s (fun l2 => next l2)) (fun (s : List Int) => (fun (l2 : List Int) => M_sort_int l2 fun z1 => M_compact_int z1 fun y2 => Q y2 0) s) ll k1 l2 ∧ FrOk 29 [(15, .int .i64 (k1 : Int)), (5, .slice l2A l2.length l2C), (13, .slice lA l.length lC), (14, .int .i64 (l.length : Int))] a ∧ Sat w0 none_ [hown 3 l2A l2C l2] w) l ⟨0, ([] : List Int), none, 0, rfl, Nat.zero_add _, h, ((((hf.nil.cons (hf.get 14 _ rfl)).cons (hf.get 13 _ rfl)).cons (hf.get 5 _ rfl)).cons (hf.get 15 _ rfl)), hs⟩ ?_
    clear h hf hs
    rintro llk1 a w ⟨k1, l2, l2A, l2C, hlk1, hkk1, h, hf, hs⟩
    cases llk1 with
    | nil =>
      have hc := range_done hkk1
      replace h : (fun (l2 : List Int) => M_sort_int l2 fun z1 => M_compact_int z1 fun y2 => Q y2 0) l2 := h
      refine wp_seq ?_
      refine R.list ?_
      refine S.val hf hs (v := .bool false) rfl rfl rfl (V.cmp false rfl rfl rfl rfl hc) (fun a hf => ?_)
      refine R.nil ?_
      refine X.then_ ?_
      refine wp_seq ?_
      refine C.no hf rfl ?_
      refine wp_exit ?_
      refine X.then_exit ?_
      refine X.then_exit ?_
      refine X.blk_exit ?_
      refine X.then_ ?_
      refine wp_seq ?_
      refine R.list ?_
      refine S.val hf hs (v := .slice l2A l2.length l2C) rfl rfl rfl (V.pure rfl) (fun a hf => ?_)
      obtain ⟨F1, hsF, hback, hold, hrest⟩ := Sat.callOwns [hown 3 l2A l2C l2] (σ := []) hs
      refine S.call hf rfl rfl rfl (call_fn (vs := [.slice l2A l2.length l2C]) rfl rfl rfl Try.call12) (R_sort_int l2 _ _ l2A l2C hsF _ h) (fun v a w' hf hr => ?_)
      obtain ⟨z1, hl_z1, rfl, h2, hs2⟩ := hr
      replace h := h2; replace hs := hback _ _ hs2; clear h2 hs2 hback hold hrest hsF
      replace hf := hf.tell 5 (v := .slice l2A z1.length l2C) ((hf.get 5 (.slice l2A l2.length l2C) rfl).trans (congrArg (fun n => Value.slice l2A n l2C) hl_z1.symm))
      replace hf := hf.tell 25 (v := .slice l2A z1.length l2C) ((hf.get 25 (.slice l2A l2.length l2C) rfl).trans (congrArg (fun n => Value.slice l2A n l2C) hl_z1.symm))
      refine R.nil ?_
      refine X.then_ ?_
      refine wp_seq ?_
      refine R.list ?_
      refine S.val hf hs (v := .slice l2A z1.length l2C) rfl rfl rfl (V.pure rfl) (fun a hf => ?_)
      obtain ⟨F1, hsF, hback, hold, hrest⟩ := Sat.callOwns [hown 3 l2A l2C z1] (σ := []) hs
      refine S.call hf rfl rfl rfl (call_fn (vs := [.slice l2A z1.length l2C]) rfl rfl rfl Try.call13) (R_compact_int z1 _ _ l2A l2C hsF _ h) (fun v a w' hf hr => ?_)
      obtain ⟨y2, y2A, y2C, rfl, h2, hs2⟩ := hr
      replace h := h2; replace hs := hback _ _ hs2; clear h2 hs2 hback hold hrest hsF
      refine S.val hf hs (v := .slice y2A y2.length y2C) rfl rfl rfl (V.pure rfl) (fun a hf => ?_)
      refine S.val hf hs (v := .int .i64 0) rfl rfl rfl (V.pure rfl) (fun a hf => ?_)
      refine R.nil ?_
      refine X.then_ ?_
      refine wp_ret ?_
      replace hs := hs.take 1
      exact L.ret hf (run_results2 Try.results4 (ResIs.tmp hf rfl) (ResIs.tmp hf rfl)) ⟨y2, y2A, y2C, 0, rfl, h, hs⟩
    | cons xk1 llk1 =>
      have hltk1 := range_lt hkk1; have hc := range_go hkk1; have hxk1 := range_get hlk1
      obtain ⟨next1, hnext1⟩ : ∃ X : List Int → Prop, X = (fun l2 => forIn' (fun k x (s : List Int) next => M_drill_Sizes_L1 k x s (fun l2 => next l2)) (fun (s : List Int) => (fun (l2 : List Int) => M_sort_int l2 fun z1 => M_compact_int z1 fun y2 => Q y2 0) s) llk1 (k1 + 1) l2) := ⟨_, rfl⟩
      replace h : M_drill_Sizes_L1 k1 xk1 l2 next1 := by rw [hnext1]; exact h
      unfold M_drill_Sizes_L1 at h
      refine wp_seq ?_
      refine R.list ?_
      refine S.val hf hs (v := .bool true) rfl rfl rfl (V.cmp true rfl rfl rfl rfl hc) (fun a hf => ?_)
      refine R.nil ?_
      refine X.then_ ?_
      refine wp_seq ?_
      refine C.yes hf rfl ?_
      refine wp_skip ?_
      refine X.then_ ?_
      refine wp_seq ?_
      refine wp_block ?_
      refine wp_seq ?_
      refine R.list ?_
      refine S.val hf hs (v := elemPtr lA (k1 * 5)) rfl rfl rfl (V.index rfl rfl rfl Try.runUnderlying22 Try.sizeOf36 (hv_l.some_ (lt_of_get hxk1)) (Int.natCast_nonneg _) (lt_of_get hxk1) rfl) (fun a hf => ?_)
      refine S.val hf hs (v := .agg #[.int .i64 xk1.At.X, .int .i64 xk1.At.Y, .int .i64 xk1.Size, .int .i64 xk1.Depth, .bool xk1.Plated]) rfl rfl rfl (V.loadEl (off := 0) (Ag.args _ _ _) (hv_l.flat hxk1) rfl rfl rfl Try.isAgg36 Try.sizeOf36 rfl rfl) (fun a hf => ?_)
      refine S.alloc hf hs rfl rfl rfl [.int .i64 0, .int .i64 0, .int .i64 0, .int .i64 0, .bool false] rfl Try.zeroValue36 rfl (fun g1 a w hf hs => ?_)
      refine S.storeBox 0 hf hs rfl rfl [.int .i64 xk1.At.X, .int .i64 xk1.At.Y, .int .i64 xk1.Size, .int .i64 xk1.Depth, .bool xk1.Plated] [.int .i64 xk1.At.X, .int .i64 xk1.At.Y, .int .i64 xk1.Size, .int .i64 xk1.Depth, .bool xk1.Plated] rfl rfl rfl rfl rfl Try.sizeOf36 rfl rfl rfl rfl (fun a w hf hs => ?_)
      refine R.nil ?_
      refine X.then_ ?_
      refine R.list ?_
      refine S.val hf hs (v := .slice l2A l2.length l2C) rfl rfl rfl (V.pure rfl) (fun a hf => ?_)
      refine S.val hf hs (v := .pointer (some ⟨g1, 2, none⟩)) rfl rfl rfl (V.fieldBox rfl rfl Try.runUnderlying36 rfl Try.sizeOf3 rfl rfl) (fun a hf => ?_)
      refine S.val hf hs (v := .int .i64 xk1.Size) rfl rfl rfl (V.loadBox 0 rfl rfl rfl Try.isAgg3 Try.sizeOf3 rfl rfl) (fun a hf => ?_)
      refine S.build1 hf hs rfl rfl rfl (α := Int) xk1.Size rfl rfl rfl Try.runUnderlying24 Try.sizeOf3 Try.zeroValue3 rfl (by decide) (fun A1 a w hf hs => ?_)
      obtain ⟨hroom, h⟩ := h
      refine S.appendCells 2 hf hs rfl rfl rfl rfl rfl rfl rfl Try.underlying24 info3 rfl hroom ((hs.ownView 0 rfl).some_ (i := 0) (by simp)) (hs.ownView 0 rfl) (fun A2 C1 a w hf hs => ?_)
      replace hs := hs.drop
      refine S.val hf hs (v := .slice A2 (l2 ++ [xk1.Size]).length C1) rfl rfl rfl (V.pure rfl) (fun a hf => ?_)
      refine R.nil ?_
      refine X.blk ?_
      refine X.then_ ?_
      refine R.list ?_
      refine S.val hf hs (v := .int .i64 ((k1 + 1 : Nat) : Int)) rfl rfl rfl (V.incr rfl rfl rfl hltk1 hlenk1) (fun a hf => ?_)
      refine S.val hf hs (v := .int .i64 ((k1 + 1 : Nat) : Int)) rfl rfl rfl (V.pure rfl) (fun a hf => ?_)
      refine R.nil ?_
      refine X.then_ ?_
      exact ⟨xk1, llk1, rfl, k1 + 1, (l2 ++ [xk1.Size]), A2, C1, range_drop hlk1, range_len hkk1, (by rw [hnext1] at h; exact h), ((((hf.nil.cons (hf.get 14 _ rfl)).cons (hf.get 13 _ rfl)).cons (hf.get 5 _ rfl)).cons (hf.get 15 _ rfl)), hs.drop⟩

set_option linter.unusedVariables false
def M_ref8_Sizes_L1  (k1 : Nat) (xk1 : Hole) (l2 : List Int) (next1 : List Int → Prop) : Prop :=
  must (room (l2 ++ [xk1.Size]).length 8) (next1 (l2 ++ [xk1.Size]))
def M_ref8_Sizes (l : (List Hole)) (Q : (List Int) → Int → Prop) : Prop :=
  M_ref8_CheckHoles l fun y1 => cnd (y1 != 0) (Q ([] : List Int) y1) (forIn' (fun k x (s : List Int) next => M_ref8_Sizes_L1 k x s (fun l2 => next l2)) (fun (s : List Int) => (fun (l2 : List Int) => M_sort_int l2 fun z1 => M_compact_int z1 fun y2 => Q y2 0) s) l 0 ([] : List Int))
set_option maxHeartbeats 1000000 in
theorem R_ref8_Sizes (l : (List Hole)) (w0 : World) (lA : Option Addr) (lC : Nat) (hv_l : View w0 (old w0 none_) lA lC l) (Q : (List Int) → Int → Prop) (h : M_ref8_Sizes l Q) :
    Ret Try.prog 5 #[.slice lA l.length lC] w0 fun v w' => ∃ (r0 : (List Int)) (r0A : Option Addr) (r0C : Nat) (r1 : Int), v = .tuple #[.slice r0A r0.length r0C, .int .i64 r1] ∧ Q r0 r1 ∧ Sat w0 none_ [hown 3 r0A r0C r0] w' := by
  refine fn_enter Try.func5 rfl Try.ntmps5 rfl (fs := [(0, .slice lA l.length lC)]) rfl (fun a hf => ?_)
  have hs := Sat.start w0 none_
  unfold M_ref8_Sizes at h
  refine wp_seq ?_
  refine R.list ?_
  refine S.val hf hs (v := .slice none 0 0) rfl rfl rfl (V.pure rfl) (fun a hf => ?_)
  refine S.val hf hs (v := .int .i64 0) rfl rfl rfl (V.pure rfl) (fun a hf => ?_)
  refine R.nil ?_
  refine X.then_ ?_
  refine wp_seq ?_
  refine wp_seq ?_
  refine R.list ?_
  refine S.val hf hs (v := .slice lA l.length lC) rfl rfl rfl (V.pure rfl) (fun a hf => ?_)
  refine S.call hf rfl rfl rfl (call_fn (vs := [.slice lA l.length lC]) rfl rfl rfl Try.call7) (R_ref8_CheckHoles l _ lA lC ((Ag.args _ _ _).view hv_l hs) _ h) (fun v a w' hf hr => ?_)
  obtain ⟨y1, rfl, h2, hs2⟩ := hr
  replace h := h2; replace hs := hs.call hs2; clear h2 hs2
  refine S.val hf hs (v := .int .i64 y1) rfl rfl rfl (V.pure rfl) (fun a hf => ?_)
  refine R.nil ?_
  refine X.then_ ?_
  refine wp_seq ?_
  refine R.list ?_
  refine S.val hf hs (v := .int .i64 y1) rfl rfl rfl (V.pure rfl) (fun a hf => ?_)
  refine S.val hf hs (v := .bool (y1 != 0)) rfl rfl rfl (V.pure rfl) (fun a hf => ?_)
  refine R.nil ?_
  refine X.then_ ?_
  refine C.cond hf (b := y1 != 0) rfl (fun hc => ?_) (fun hc => ?_)
  · replace h := h.1 hc
    refine wp_seq ?_
    refine R.list ?_
    refine S.val hf hs (v := .int .i64 y1) rfl rfl rfl (V.pure rfl) (fun a hf => ?_)
    refine S.val hf hs (v := .slice none 0 0) rfl rfl rfl (V.pure rfl) (fun a hf => ?_)
    refine S.val hf hs (v := .int .i64 y1) rfl rfl rfl (V.pure rfl) (fun a hf => ?_)
    refine R.nil ?_
    refine X.then_ ?_
    refine wp_ret ?_
    refine X.then_ret ?_
    replace hs := hs.nilOwn (α := Int) 3
    replace hs := hs.take 1
    exact L.ret hf (run_results2 Try.results5 (ResIs.tmp hf rfl) (ResIs.tmp hf rfl)) ⟨([] : List Int), none, 0, y1, rfl, h, hs⟩
  · replace h := h.2 hc
    refine wp_skip ?_
    refine X.then_ ?_
    refine wp_seq ?_
    refine R.list ?_
    refine S.val hf hs (v := .slice none 0 0) rfl rfl rfl (V.pure rfl) (fun a hf => ?_)
    refine R.nil ?_
    refine X.then_ ?_
    refine wp_seq ?_
    refine wp_seq ?_
    refine R.list ?_
    refine S.val hf hs (v := .slice lA l.length lC) rfl rfl rfl (V.pure rfl) (fun a hf => ?_)
    refine S.val hf hs (v := .int .i64 (l.length : Int)) rfl rfl rfl (V.len rfl rfl Try.runUnderlying22) (fun a hf => ?_)
    refine S.val hf hs (v := .int .i64 0) rfl rfl rfl (V.pure rfl) (fun a hf => ?_)
    refine R.nil ?_
    refine X.then_ ?_
    refine wp_block ?_
    replace hs := hs.nilOwn (α := Int) 3
    have hlenk1 := hv_l.len64
    refine C.range (fun (ll : List Hole) a w => ∃ (k1 : Nat) (l2 : List Int) (l2A : Option Addr) (l2C : Nat), l.drop k1 = ll ∧ k1 + ll.length = l.length ∧ forIn' (fun k x (s : List Int) next => M_ref8_Sizes_L1 k x s (fun l2 => next l2)) (fun (s : List Int) => (fun (l2 : List Int) => M_sort_int l2 fun z1 => M_compact_int z1 fun y2 => Q y2 0) s) ll k1 l2 ∧ FrOk 29 [(15, .int .i64 (k1 : Int)), (5, .slice l2A l2.length l2C), (13, .slice lA l.length lC), (14, .int .i64 (l.length : Int))] a ∧ Sat w0 none_ [hown 3 l2A l2C l2] w) l ⟨0, ([] : List Int), none, 0, rfl, Nat.zero_add _, h, ((((hf.nil.cons (hf.get 14 _ rfl)).cons (hf.get 13 _ rfl)).cons (hf.get 5 _ rfl)).cons (hf.get 15 _ rfl)), hs⟩ ?_
    clear h hf hs
    rintro llk1 a w ⟨k1, l2, l2A, l2C, hlk1, hkk1, h, hf, hs⟩
    cases llk1 with
    | nil =>
      have hc := range_done hkk1
      replace h : (fun (l2 : List Int) => M_sort_int l2 fun z1 => M_compact_int z1 fun y2 => Q y2 0) l2 := h
      refine wp_seq ?_
      refine R.list ?_
      refine S.val hf hs (v := .bool false) rfl rfl rfl (V.cmp false rfl rfl rfl rfl hc) (fun a hf => ?_)
      refine R.nil ?_
      refine X.then_ ?_
      refine wp_seq ?_
      refine C.no hf rfl ?_
      refine wp_exit ?_
      refine X.then_exit ?_
      refine X.then_exit ?_
      refine X.blk_exit ?_
      refine X.then_ ?_
      refine wp_seq ?_
      refine R.list ?_
      refine S.val hf hs (v := .slice l2A l2.length l2C) rfl rfl rfl (V.pure rfl) (fun a hf => ?_)
      obtain ⟨F1, hsF, hback, hold, hrest⟩ := Sat.callOwns [hown 3 l2A l2C l2] (σ := []) hs
      refine S.call hf rfl rfl rfl (call_fn (vs := [.slice l2A l2.length l2C]) rfl rfl rfl Try.call12) (R_sort_int l2 _ _ l2A l2C hsF _ h) (fun v a w' hf hr => ?_)
      obtain ⟨z1, hl_z1, rfl, h2, hs2⟩ := hr
      replace h := h2; replace hs := hback _ _ hs2; clear h2 hs2 hback hold hrest hsF
      replace hf := hf.tell 5 (v := .slice l2A z1.length l2C) ((hf.get 5 (.slice l2A l2.length l2C) rfl).trans (congrArg (fun n => Value.slice l2A n l2C) hl_z1.symm))
      replace hf := hf.tell 25 (v := .slice l2A z1.length l2C) ((hf.get 25 (.slice l2A l2.length l2C) rfl).trans (congrArg (fun n => Value.slice l2A n l2C) hl_z1.symm))
      refine R.nil ?_
      refine X.then_ ?_
      refine wp_seq ?_
      refine R.list ?_
      refine S.val hf hs (v := .slice l2A z1.length l2C) rfl rfl rfl (V.pure rfl) (fun a hf => ?_)
      obtain ⟨F1, hsF, hback, hold, hrest⟩ := Sat.callOwns [hown 3 l2A l2C z1] (σ := []) hs
      refine S.call hf rfl rfl rfl (call_fn (vs := [.slice l2A z1.length l2C]) rfl rfl rfl Try.call13) (R_compact_int z1 _ _ l2A l2C hsF _ h) (fun v a w' hf hr => ?_)
      obtain ⟨y2, y2A, y2C, rfl, h2, hs2⟩ := hr
      replace h := h2; replace hs := hback _ _ hs2; clear h2 hs2 hback hold hrest hsF
      refine S.val hf hs (v := .slice y2A y2.length y2C) rfl rfl rfl (V.pure rfl) (fun a hf => ?_)
      refine S.val hf hs (v := .int .i64 0) rfl rfl rfl (V.pure rfl) (fun a hf => ?_)
      refine R.nil ?_
      refine X.then_ ?_
      refine wp_ret ?_
      replace hs := hs.take 1
      exact L.ret hf (run_results2 Try.results5 (ResIs.tmp hf rfl) (ResIs.tmp hf rfl)) ⟨y2, y2A, y2C, 0, rfl, h, hs⟩
    | cons xk1 llk1 =>
      have hltk1 := range_lt hkk1; have hc := range_go hkk1; have hxk1 := range_get hlk1
      obtain ⟨next1, hnext1⟩ : ∃ X : List Int → Prop, X = (fun l2 => forIn' (fun k x (s : List Int) next => M_ref8_Sizes_L1 k x s (fun l2 => next l2)) (fun (s : List Int) => (fun (l2 : List Int) => M_sort_int l2 fun z1 => M_compact_int z1 fun y2 => Q y2 0) s) llk1 (k1 + 1) l2) := ⟨_, rfl⟩
      replace h : M_ref8_Sizes_L1 k1 xk1 l2 next1 := by rw [hnext1]; exact h
      unfold M_ref8_Sizes_L1 at h
      refine wp_seq ?_
      refine R.list ?_
      refine S.val hf hs (v := .bool true) rfl rfl rfl (V.cmp true rfl rfl rfl rfl hc) (fun a hf => ?_)
      refine R.nil ?_
      refine X.then_ ?_
      refine wp_seq ?_
      refine C.yes hf rfl ?_
      refine wp_skip ?_
      refine X.then_ ?_
      refine wp_seq ?_
      refine wp_block ?_
      refine wp_seq ?_
      refine R.list ?_
      refine S.val hf hs (v := elemPtr lA (k1 * 5)) rfl rfl rfl (V.index rfl rfl rfl Try.runUnderlying22 Try.sizeOf36 (hv_l.some_ (lt_of_get hxk1)) (Int.natCast_nonneg _) (lt_of_get hxk1) rfl) (fun a hf => ?_)
      refine S.val hf hs (v := .agg #[.int .i64 xk1.At.X, .int .i64 xk1.At.Y, .int .i64 xk1.Size, .int .i64 xk1.Depth, .bool xk1.Plated]) rfl rfl rfl (V.loadEl (off := 0) (Ag.args _ _ _) (hv_l.flat hxk1) rfl rfl rfl Try.isAgg36 Try.sizeOf36 rfl rfl) (fun a hf => ?_)
      refine S.alloc hf hs rfl rfl rfl [.int .i64 0, .int .i64 0, .int .i64 0, .int .i64 0, .bool false] rfl Try.zeroValue36 rfl (fun g1 a w hf hs => ?_)
      refine S.storeBox 0 hf hs rfl rfl [.int .i64 xk1.At.X, .int .i64 xk1.At.Y, .int .i64 xk1.Size, .int .i64 xk1.Depth, .bool xk1.Plated] [.int .i64 xk1.At.X, .int .i64 xk1.At.Y, .int .i64 xk1.Size, .int .i64 xk1.Depth, .bool xk1.Plated] rfl rfl rfl rfl rfl Try.sizeOf36 rfl rfl rfl rfl (fun a w hf hs => ?_)
      refine R.nil ?_
      refine X.then_ ?_
      refine R.list ?_
      refine S.val hf hs (v := .slice l2A l2.length l2C) rfl rfl rfl (V.pure rfl) (fun a hf => ?_)
      refine S.val hf hs (v := .pointer (some ⟨g1, 2, none⟩)) rfl rfl rfl (V.fieldBox rfl rfl Try.runUnderlying36 rfl Try.sizeOf3 rfl rfl) (fun a hf => ?_)
      refine S.val hf hs (v := .int .i64 xk1.Size) rfl rfl rfl (V.loadBox 0 rfl rfl rfl Try.isAgg3 Try.sizeOf3 rfl rfl) (fun a hf => ?_)
      refine S.build1 hf hs rfl rfl rfl (α := Int) xk1.Size rfl rfl rfl Try.runUnderlying24 Try.sizeOf3 Try.zeroValue3 rfl (by decide) (fun A1 a w hf hs => ?_)
      obtain ⟨hroom, h⟩ := h
      refine S.appendCells 2 hf hs rfl rfl rfl rfl rfl rfl rfl Try.underlying24 info3 rfl hroom ((hs.ownView 0 rfl).some_ (i := 0) (by simp)) (hs.ownView 0 rfl) (fun A2 C1 a w hf hs => ?_)
      replace hs := hs.drop
      refine S.val hf hs (v := .slice A2 (l2 ++ [xk1.Size]).length C1) rfl rfl rfl (V.pure rfl) (fun a hf => ?_)
      refine R.nil ?_
      refine X.blk ?_
      refine X.then_ ?_
      refine R.list ?_
      refine S.val hf hs (v := .int .i64 ((k1 + 1 : Nat) : Int)) rfl rfl rfl (V.incr rfl rfl rfl hltk1 hlenk1) (fun a hf => ?_)
      refine S.val hf hs (v := .int .i64 ((k1 + 1 : Nat) : Int)) rfl rfl rfl (V.pure rfl) (fun a hf => ?_)
      refine R.nil ?_
      refine X.then_ ?_
      exact ⟨xk1, llk1, rfl, k1 + 1, (l2 ++ [xk1.Size]), A2, C1, range_drop hlk1, range_len hkk1, (by rw [hnext1] at h; exact h), ((((hf.nil.cons (hf.get 14 _ rfl)).cons (hf.get 13 _ rfl)).cons (hf.get 5 _ rfl)).cons (hf.get 15 _ rfl)), hs.drop⟩

set_option linter.unusedVariables false
def M_law_Checks (l : (List Hole)) (t : (List Bit)) (Q : Bool → Prop) : Prop :=
  M_drill_Sizes l fun y1 y2 => M_ref8_Sizes l fun y3 y4 => M_drill_CheckHoles l fun y5 => M_ref8_CheckHoles l fun y6 => cnd (y5 == y6) (M_drill_CheckTools t fun y7 => M_ref8_CheckTools t fun y8 => cnd (y7 == y8) (cnd (y2 == y4) (M_equal_int y1 y3 fun y9 => cnd y9 (M_awake  fun y10 => Q y10) (Q false)) (Q false)) (Q false)) (Q false)
set_option maxHeartbeats 1000000 in
theorem R_law_Checks (l : (List Hole)) (t : (List Bit)) (w0 : World) (lA : Option Addr) (lC : Nat) (hv_l : View w0 (old w0 none_) lA lC l) (tA : Option Addr) (tC : Nat) (hv_t : View w0 (old w0 none_) tA tC t) (Q : Bool → Prop) (h : M_law_Checks l t Q) :
    Ret Try.prog 3 #[.slice lA l.length lC, .slice tA t.length tC] w0 fun v w' => ∃ (r0 : Bool), v = .bool r0 ∧ Q r0 ∧ Sat w0 none_ [] w' := by
  refine fn_enter Try.func3 rfl Try.ntmps3 rfl (fs := [(0, .slice lA l.length lC), (1, .slice tA t.length tC)]) rfl (fun a hf => ?_)
  have hs := Sat.start w0 none_
  unfold M_law_Checks at h
  refine wp_seq ?_
  refine R.list ?_
  refine S.val hf hs (v := .bool false) rfl rfl rfl (V.pure rfl) (fun a hf => ?_)
  refine R.nil ?_
  refine X.then_ ?_
  refine wp_seq ?_
  refine R.list ?_
  refine S.val hf hs (v := .slice lA l.length lC) rfl rfl rfl (V.pure rfl) (fun a hf => ?_)
  refine S.call hf rfl rfl rfl (call_fn (vs := [.slice lA l.length lC]) rfl rfl rfl Try.call4) (R_drill_Sizes l _ lA lC ((Ag.args _ _ _).view hv_l hs) _ h) (fun v a w' hf hr => ?_)
  obtain ⟨y1, y1A, y1C, y2, rfl, h2, hs2⟩ := hr
  replace h := h2; replace hs := hs.call hs2; clear h2 hs2
  refine S.val hf hs (v := .tuple #[.slice y1A y1.length y1C, .int .i64 y2]) rfl rfl rfl (V.pure rfl) (fun a hf => ?_)
  refine S.val hf hs (v := .slice y1A y1.length y1C) rfl rfl rfl (V.pure rfl) (fun a hf => ?_)
  refine S.val hf hs (v := .int .i64 y2) rfl rfl rfl (V.pure rfl) (fun a hf => ?_)
  refine S.val hf hs (v := .slice y1A y1.length y1C) rfl rfl rfl (V.pure rfl) (fun a hf => ?_)
  refine S.val hf hs (v := .int .i64 y2) rfl rfl rfl (V.pure rfl) (fun a hf => ?_)
  refine R.nil ?_
  refine X.then_ ?_
  refine wp_seq ?_
  refine R.list ?_
  refine S.val hf hs (v := .slice lA l.length lC) rfl rfl rfl (V.pure rfl) (fun a hf => ?_)
  refine S.call hf rfl rfl rfl (call_fn (vs := [.slice lA l.length lC]) rfl rfl rfl Try.call5) (R_ref8_Sizes l _ lA lC ((Ag.args _ _ _).view hv_l hs) _ h) (fun v a w' hf hr => ?_)
  obtain ⟨y3, y3A, y3C, y4, rfl, h2, hs2⟩ := hr
  replace h := h2; replace hs := hs.call hs2; clear h2 hs2
  refine S.val hf hs (v := .tuple #[.slice y3A y3.length y3C, .int .i64 y4]) rfl rfl rfl (V.pure rfl) (fun a hf => ?_)
  refine S.val hf hs (v := .slice y3A y3.length y3C) rfl rfl rfl (V.pure rfl) (fun a hf => ?_)
  refine S.val hf hs (v := .int .i64 y4) rfl rfl rfl (V.pure rfl) (fun a hf => ?_)
  refine S.val hf hs (v := .slice y3A y3.length y3C) rfl rfl rfl (V.pure rfl) (fun a hf => ?_)
  refine S.val hf hs (v := .int .i64 y4) rfl rfl rfl (V.pure rfl) (fun a hf => ?_)
  refine R.nil ?_
  refine X.then_ ?_
  refine wp_seq ?_
  refine R.list ?_
  refine S.val hf hs (v := .slice lA l.length lC) rfl rfl rfl (V.pure rfl) (fun a hf => ?_)
  refine S.call hf rfl rfl rfl (call_fn (vs := [.slice lA l.length lC]) rfl rfl rfl Try.call6) (R_drill_CheckHoles l _ lA lC ((Ag.args _ _ _).view hv_l hs) _ h) (fun v a w' hf hr => ?_)
  obtain ⟨y5, rfl, h2, hs2⟩ := hr
  replace h := h2; replace hs := hs.call hs2; clear h2 hs2
  refine S.val hf hs (v := .slice lA l.length lC) rfl rfl rfl (V.pure rfl) (fun a hf => ?_)
  refine S.call hf rfl rfl rfl (call_fn (vs := [.slice lA l.length lC]) rfl rfl rfl Try.call7) (R_ref8_CheckHoles l _ lA lC ((Ag.args _ _ _).view hv_l hs) _ h) (fun v a w' hf hr => ?_)
  obtain ⟨y6, rfl, h2, hs2⟩ := hr
  replace h := h2; replace hs := hs.call hs2; clear h2 hs2
  refine S.val hf hs (v := .bool (y5 == y6)) rfl rfl rfl (V.pure rfl) (fun a hf => ?_)
  refine S.split hf hs (b := y5 == y6) rfl rfl rfl (V.pure rfl) (fun hc a hf => ?_) (fun hc a hf => ?_)
  · replace h := h.1 hc
    refine S.val hf hs (v := .slice tA t.length tC) rfl rfl rfl (V.pure rfl) (fun a hf => ?_)
    refine S.call hf rfl rfl rfl (call_fn (vs := [.slice tA t.length tC]) rfl rfl rfl Try.call8) (R_drill_CheckTools t _ tA tC ((Ag.args _ _ _).view hv_t hs) _ h) (fun v a w' hf hr => ?_)
    obtain ⟨y7, rfl, h2, hs2⟩ := hr
    replace h := h2; replace hs := hs.call hs2; clear h2 hs2
    refine S.val hf hs (v := .slice tA t.length tC) rfl rfl rfl (V.pure rfl) (fun a hf => ?_)
    refine S.call hf rfl rfl rfl (call_fn (vs := [.slice tA t.length tC]) rfl rfl rfl Try.call9) (R_ref8_CheckTools t _ tA tC ((Ag.args _ _ _).view hv_t hs) _ h) (fun v a w' hf hr => ?_)
    obtain ⟨y8, rfl, h2, hs2⟩ := hr
    replace h := h2; replace hs := hs.call hs2; clear h2 hs2
    refine S.val hf hs (v := .bool (y7 == y8)) rfl rfl rfl (V.pure rfl) (fun a hf => ?_)
    refine S.val hf hs (v := .bool (y7 == y8)) rfl rfl rfl (V.pure rfl) (fun a hf => ?_)
    refine S.split hf hs (b := y7 == y8) rfl rfl rfl (V.pure rfl) (fun hc a hf => ?_) (fun hc a hf => ?_)
    · replace h := h.1 hc
      refine S.val hf hs (v := .int .i64 y2) rfl rfl rfl (V.pure rfl) (fun a hf => ?_)
      refine S.val hf hs (v := .int .i64 y4) rfl rfl rfl (V.pure rfl) (fun a hf => ?_)
      refine S.val hf hs (v := .bool (y2 == y4)) rfl rfl rfl (V.pure rfl) (fun a hf => ?_)
      refine S.val hf hs (v := .bool (y2 == y4)) rfl rfl rfl (V.pure rfl) (fun a hf => ?_)
      refine S.split hf hs (b := y2 == y4) rfl rfl rfl (V.pure rfl) (fun hc a hf => ?_) (fun hc a hf => ?_)
      · replace h := h.1 hc
        refine S.val hf hs (v := .slice y1A y1.length y1C) rfl rfl rfl (V.pure rfl) (fun a hf => ?_)
        refine S.val hf hs (v := .slice y3A y3.length y3C) rfl rfl rfl (V.pure rfl) (fun a hf => ?_)
        refine S.call hf rfl rfl rfl (call_fn (vs := [.slice y1A y1.length y1C, .slice y3A y3.length y3C]) rfl rfl rfl Try.call10) (R_equal_int y1 y3 _ y1A y1C (hs.ownView 1 rfl) y3A y3C (hs.ownView 0 rfl) _ h) (fun v a w' hf hr => ?_)
        obtain ⟨y9, rfl, h2, hs2⟩ := hr
        replace h := h2; replace hs := hs.call hs2; clear h2 hs2
        refine S.val hf hs (v := .bool y9) rfl rfl rfl (V.pure rfl) (fun a hf => ?_)
        refine S.split hf hs (b := y9) rfl rfl rfl (V.pure rfl) (fun hc a hf => ?_) (fun hc a hf => ?_)
        · replace h := h.1 hc
          refine S.call hf rfl rfl rfl (call_fn (vs := []) rfl rfl rfl Try.call11) (R_awake  _  _ h) (fun v a w' hf hr => ?_)
          obtain ⟨y10, rfl, h2, hs2⟩ := hr
          replace h := h2; replace hs := hs.call hs2; clear h2 hs2
          refine S.val hf hs (v := .bool y10) rfl rfl rfl (V.pure rfl) (fun a hf => ?_)
          refine S.val hf hs (v := .bool y10) rfl rfl rfl (V.pure rfl) (fun a hf => ?_)
          refine R.nil ?_
          refine X.then_ ?_
          refine wp_ret ?_
          exact L.ret hf (run_results1 Try.results3 (ResIs.tmp hf rfl)) ⟨y10, rfl, h, hs.nil⟩
        · replace h := h.2 hc
          refine S.skip hf rfl rfl rfl (fun a hf => ?_)
          refine S.val hf hs (v := .bool false) rfl rfl rfl (V.pure rfl) (fun a hf => ?_)
          refine S.val hf hs (v := .bool false) rfl rfl rfl (V.pure rfl) (fun a hf => ?_)
          refine R.nil ?_
          refine X.then_ ?_
          refine wp_ret ?_
          exact L.ret hf (run_results1 Try.results3 (ResIs.tmp hf rfl)) ⟨false, rfl, h, hs.nil⟩
      · replace h := h.2 hc
        refine S.skip hf rfl rfl rfl (fun a hf => ?_)
        refine S.skip hf rfl rfl rfl (fun a hf => ?_)
        refine S.skip hf rfl rfl rfl (fun a hf => ?_)
        refine S.val hf hs (v := .bool false) rfl rfl rfl (V.pure rfl) (fun a hf => ?_)
        refine S.val hf hs (v := .bool false) rfl rfl rfl (V.pure rfl) (fun a hf => ?_)
        refine S.skip hf rfl rfl rfl (fun a hf => ?_)
        refine S.val hf hs (v := .bool false) rfl rfl rfl (V.pure rfl) (fun a hf => ?_)
        refine S.val hf hs (v := .bool false) rfl rfl rfl (V.pure rfl) (fun a hf => ?_)
        refine R.nil ?_
        refine X.then_ ?_
        refine wp_ret ?_
        exact L.ret hf (run_results1 Try.results3 (ResIs.tmp hf rfl)) ⟨false, rfl, h, hs.nil⟩
    · replace h := h.2 hc
      refine S.skip hf rfl rfl rfl (fun a hf => ?_)
      refine S.skip hf rfl rfl rfl (fun a hf => ?_)
      refine S.skip hf rfl rfl rfl (fun a hf => ?_)
      refine S.val hf hs (v := .bool false) rfl rfl rfl (V.pure rfl) (fun a hf => ?_)
      refine S.val hf hs (v := .bool false) rfl rfl rfl (V.pure rfl) (fun a hf => ?_)
      refine S.skip hf rfl rfl rfl (fun a hf => ?_)
      refine S.skip hf rfl rfl rfl (fun a hf => ?_)
      refine S.skip hf rfl rfl rfl (fun a hf => ?_)
      refine S.val hf hs (v := .bool false) rfl rfl rfl (V.pure rfl) (fun a hf => ?_)
      refine S.val hf hs (v := .bool false) rfl rfl rfl (V.pure rfl) (fun a hf => ?_)
      refine S.skip hf rfl rfl rfl (fun a hf => ?_)
      refine S.val hf hs (v := .bool false) rfl rfl rfl (V.pure rfl) (fun a hf => ?_)
      refine S.val hf hs (v := .bool false) rfl rfl rfl (V.pure rfl) (fun a hf => ?_)
      refine R.nil ?_
      refine X.then_ ?_
      refine wp_ret ?_
      exact L.ret hf (run_results1 Try.results3 (ResIs.tmp hf rfl)) ⟨false, rfl, h, hs.nil⟩
  · replace h := h.2 hc
    refine S.skip hf rfl rfl rfl (fun a hf => ?_)
    refine S.skip hf rfl rfl rfl (fun a hf => ?_)
    refine S.skip hf rfl rfl rfl (fun a hf => ?_)
    refine S.skip hf rfl rfl rfl (fun a hf => ?_)
    refine S.skip hf rfl rfl rfl (fun a hf => ?_)
    refine S.val hf hs (v := .bool false) rfl rfl rfl (V.pure rfl) (fun a hf => ?_)
    refine S.val hf hs (v := .bool false) rfl rfl rfl (V.pure rfl) (fun a hf => ?_)
    refine S.skip hf rfl rfl rfl (fun a hf => ?_)
    refine S.skip hf rfl rfl rfl (fun a hf => ?_)
    refine S.skip hf rfl rfl rfl (fun a hf => ?_)
    refine S.val hf hs (v := .bool false) rfl rfl rfl (V.pure rfl) (fun a hf => ?_)
    refine S.val hf hs (v := .bool false) rfl rfl rfl (V.pure rfl) (fun a hf => ?_)
    refine S.skip hf rfl rfl rfl (fun a hf => ?_)
    refine S.skip hf rfl rfl rfl (fun a hf => ?_)
    refine S.skip hf rfl rfl rfl (fun a hf => ?_)
    refine S.val hf hs (v := .bool false) rfl rfl rfl (V.pure rfl) (fun a hf => ?_)
    refine S.val hf hs (v := .bool false) rfl rfl rfl (V.pure rfl) (fun a hf => ?_)
    refine S.skip hf rfl rfl rfl (fun a hf => ?_)
    refine S.val hf hs (v := .bool false) rfl rfl rfl (V.pure rfl) (fun a hf => ?_)
    refine S.val hf hs (v := .bool false) rfl rfl rfl (V.pure rfl) (fun a hf => ?_)
    refine R.nil ?_
    refine X.then_ ?_
    refine wp_ret ?_
    exact L.ret hf (run_results1 Try.results3 (ResIs.tmp hf rfl)) ⟨false, rfl, h, hs.nil⟩

end Go.Proofs.Ytcmgagedebbpoaa

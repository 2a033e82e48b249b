/- Chapter 8: the small functions of points, and the ways. -/
import Derived.Test.YtmopdabkfklefaaTypes
namespace Go.Proofs.Ytmopdabkfklefaa
open Go Go.RowKit
set_option linter.unusedVariables false

/-! ### numbers and points -/
def within (n lo hi : Int) : Bool := decide (lo ≤ n) && decide (n ≤ hi)
def apart (a b : Int) : Int := max (w64 (a - b)) (w64 (b - a))
def far (p q : Point) : Int := max (apart p.X q.X) (apart p.Y q.Y)
def isPoint (p : Point) : Bool := within p.X (-1000000) 1000000 && within p.Y (-1000000) 1000000

set_option linter.unusedVariables false
def M_drill_within (n : Int) (lo : Int) (hi : Int) (Q : Bool → Prop) : Prop :=
  cnd (decide (n ≥ lo)) (Q (decide (n ≤ hi))) (Q false)
set_option maxHeartbeats 1000000 in
theorem R_drill_within (n : Int) (lo : Int) (hi : Int) (w0 : World)  (Q : Bool → Prop) (h : M_drill_within n lo hi Q) :
    Ret Try.prog 55 #[.int .i64 n, .int .i64 lo, .int .i64 hi] w0 fun v w' => ∃ (r0 : Bool), v = .bool r0 ∧ Q r0 ∧ Sat w0 none_ [] w' := by
  refine fn_enter Try.func55 rfl Try.ntmps55 rfl (fs := [(0, .int .i64 n), (1, .int .i64 lo), (2, .int .i64 hi)]) rfl (fun a hf => ?_)
  have hs := Sat.start w0 none_
  unfold M_drill_within at h
  refine wp_seq ?_
  refine R.list ?_
  refine S.val hf hs (v := .bool false) rfl rfl rfl (V.pure rfl) (fun a hf => ?_)
  refine R.nil ?_
  refine X.then_ ?_
  refine wp_seq ?_
  refine R.list ?_
  refine S.val hf hs (v := .int .i64 n) rfl rfl rfl (V.pure rfl) (fun a hf => ?_)
  refine S.val hf hs (v := .int .i64 lo) rfl rfl rfl (V.pure rfl) (fun a hf => ?_)
  refine S.val hf hs (v := .bool (decide (n ≥ lo))) rfl rfl rfl (V.pure rfl) (fun a hf => ?_)
  refine S.split hf hs (b := decide (n ≥ lo)) rfl rfl rfl (V.pure rfl) (fun hc a hf => ?_) (fun hc a hf => ?_)
  · replace h := h.1 hc
    refine S.val hf hs (v := .int .i64 n) rfl rfl rfl (V.pure rfl) (fun a hf => ?_)
    refine S.val hf hs (v := .int .i64 hi) rfl rfl rfl (V.pure rfl) (fun a hf => ?_)
    refine S.val hf hs (v := .bool (decide (n ≤ hi))) rfl rfl rfl (V.pure rfl) (fun a hf => ?_)
    refine S.val hf hs (v := .bool (decide (n ≤ hi))) rfl rfl rfl (V.pure rfl) (fun a hf => ?_)
    refine S.val hf hs (v := .bool (decide (n ≤ hi))) rfl rfl rfl (V.pure rfl) (fun a hf => ?_)
    refine R.nil ?_
    refine X.then_ ?_
    refine wp_ret ?_
    exact L.ret hf (run_results1 Try.results55 (ResIs.tmp hf rfl)) ⟨(decide (n ≤ hi)), rfl, h, hs.nil⟩
  · replace h := h.2 hc
    refine S.skip hf rfl rfl rfl (fun a hf => ?_)
    refine S.skip hf rfl rfl rfl (fun a hf => ?_)
    refine S.skip hf rfl rfl rfl (fun a hf => ?_)
    refine S.val hf hs (v := .bool false) rfl rfl rfl (V.pure rfl) (fun a hf => ?_)
    refine S.val hf hs (v := .bool false) rfl rfl rfl (V.pure rfl) (fun a hf => ?_)
    refine R.nil ?_
    refine X.then_ ?_
    refine wp_ret ?_
    exact L.ret hf (run_results1 Try.results55 (ResIs.tmp hf rfl)) ⟨false, rfl, h, hs.nil⟩

theorem E_drill_within (n lo hi : Int) : M_drill_within n lo hi (· = within n lo hi) := by
  unfold M_drill_within within; constructor <;> intro h <;> simp_all <;> omega
theorem C_drill_within (n : Int) (lo : Int) (hi : Int) (w0 : World)  : Ret Try.prog 55 #[.int .i64 n, .int .i64 lo, .int .i64 hi] w0 fun v w' => v = .bool (within n lo hi) ∧ Sat w0 none_ [] w' :=
  (R_drill_within n lo hi w0  (· = (within n lo hi)) (E_drill_within n lo hi)).mono fun v w' ⟨r0, hv, hr, hs⟩ => ⟨by subst hr; exact hv, hs⟩

set_option linter.unusedVariables false
def M_shape_within (n : Int) (lo : Int) (hi : Int) (Q : Bool → Prop) : Prop :=
  cnd (decide (n ≥ lo)) (Q (decide (n ≤ hi))) (Q false)
set_option maxHeartbeats 1000000 in
theorem R_shape_within (n : Int) (lo : Int) (hi : Int) (w0 : World)  (Q : Bool → Prop) (h : M_shape_within n lo hi Q) :
    Ret Try.prog 101 #[.int .i64 n, .int .i64 lo, .int .i64 hi] w0 fun v w' => ∃ (r0 : Bool), v = .bool r0 ∧ Q r0 ∧ Sat w0 none_ [] w' := by
  refine fn_enter Try.func101 rfl Try.ntmps101 rfl (fs := [(0, .int .i64 n), (1, .int .i64 lo), (2, .int .i64 hi)]) rfl (fun a hf => ?_)
  have hs := Sat.start w0 none_
  unfold M_shape_within at h
  refine wp_seq ?_
  refine R.list ?_
  refine S.val hf hs (v := .bool false) rfl rfl rfl (V.pure rfl) (fun a hf => ?_)
  refine R.nil ?_
  refine X.then_ ?_
  refine wp_seq ?_
  refine R.list ?_
  refine S.val hf hs (v := .int .i64 n) rfl rfl rfl (V.pure rfl) (fun a hf => ?_)
  refine S.val hf hs (v := .int .i64 lo) rfl rfl rfl (V.pure rfl) (fun a hf => ?_)
  refine S.val hf hs (v := .bool (decide (n ≥ lo))) rfl rfl rfl (V.pure rfl) (fun a hf => ?_)
  refine S.split hf hs (b := decide (n ≥ lo)) rfl rfl rfl (V.pure rfl) (fun hc a hf => ?_) (fun hc a hf => ?_)
  · replace h := h.1 hc
    refine S.val hf hs (v := .int .i64 n) rfl rfl rfl (V.pure rfl) (fun a hf => ?_)
    refine S.val hf hs (v := .int .i64 hi) rfl rfl rfl (V.pure rfl) (fun a hf => ?_)
    refine S.val hf hs (v := .bool (decide (n ≤ hi))) rfl rfl rfl (V.pure rfl) (fun a hf => ?_)
    refine S.val hf hs (v := .bool (decide (n ≤ hi))) rfl rfl rfl (V.pure rfl) (fun a hf => ?_)
    refine S.val hf hs (v := .bool (decide (n ≤ hi))) rfl rfl rfl (V.pure rfl) (fun a hf => ?_)
    refine R.nil ?_
    refine X.then_ ?_
    refine wp_ret ?_
    exact L.ret hf (run_results1 Try.results101 (ResIs.tmp hf rfl)) ⟨(decide (n ≤ hi)), rfl, h, hs.nil⟩
  · replace h := h.2 hc
    refine S.skip hf rfl rfl rfl (fun a hf => ?_)
    refine S.skip hf rfl rfl rfl (fun a hf => ?_)
    refine S.skip hf rfl rfl rfl (fun a hf => ?_)
    refine S.val hf hs (v := .bool false) rfl rfl rfl (V.pure rfl) (fun a hf => ?_)
    refine S.val hf hs (v := .bool false) rfl rfl rfl (V.pure rfl) (fun a hf => ?_)
    refine R.nil ?_
    refine X.then_ ?_
    refine wp_ret ?_
    exact L.ret hf (run_results1 Try.results101 (ResIs.tmp hf rfl)) ⟨false, rfl, h, hs.nil⟩

theorem E_shape_within (n lo hi : Int) : M_shape_within n lo hi (· = within n lo hi) := by
  unfold M_shape_within within; constructor <;> intro h <;> simp_all <;> omega
theorem C_shape_within (n : Int) (lo : Int) (hi : Int) (w0 : World)  : Ret Try.prog 101 #[.int .i64 n, .int .i64 lo, .int .i64 hi] w0 fun v w' => v = .bool (within n lo hi) ∧ Sat w0 none_ [] w' :=
  (R_shape_within n lo hi w0  (· = (within n lo hi)) (E_shape_within n lo hi)).mono fun v w' ⟨r0, hv, hr, hs⟩ => ⟨by subst hr; exact hv, hs⟩

set_option linter.unusedVariables false
def M_ref8_within (n : Int) (lo : Int) (hi : Int) (Q : Bool → Prop) : Prop :=
  cnd (decide (lo ≤ n)) (Q (decide (n ≤ hi))) (Q false)
set_option maxHeartbeats 1000000 in
theorem R_ref8_within (n : Int) (lo : Int) (hi : Int) (w0 : World)  (Q : Bool → Prop) (h : M_ref8_within n lo hi Q) :
    Ret Try.prog 59 #[.int .i64 n, .int .i64 lo, .int .i64 hi] w0 fun v w' => ∃ (r0 : Bool), v = .bool r0 ∧ Q r0 ∧ Sat w0 none_ [] w' := by
  refine fn_enter Try.func59 rfl Try.ntmps59 rfl (fs := [(0, .int .i64 n), (1, .int .i64 lo), (2, .int .i64 hi)]) rfl (fun a hf => ?_)
  have hs := Sat.start w0 none_
  unfold M_ref8_within at h
  refine wp_seq ?_
  refine R.list ?_
  refine S.val hf hs (v := .bool false) rfl rfl rfl (V.pure rfl) (fun a hf => ?_)
  refine R.nil ?_
  refine X.then_ ?_
  refine wp_seq ?_
  refine R.list ?_
  refine S.val hf hs (v := .int .i64 lo) rfl rfl rfl (V.pure rfl) (fun a hf => ?_)
  refine S.val hf hs (v := .int .i64 n) rfl rfl rfl (V.pure rfl) (fun a hf => ?_)
  refine S.val hf hs (v := .bool (decide (lo ≤ n))) rfl rfl rfl (V.pure rfl) (fun a hf => ?_)
  refine S.split hf hs (b := decide (lo ≤ n)) rfl rfl rfl (V.pure rfl) (fun hc a hf => ?_) (fun hc a hf => ?_)
  · replace h := h.1 hc
    refine S.val hf hs (v := .int .i64 n) rfl rfl rfl (V.pure rfl) (fun a hf => ?_)
    refine S.val hf hs (v := .int .i64 hi) rfl rfl rfl (V.pure rfl) (fun a hf => ?_)
    refine S.val hf hs (v := .bool (decide (n ≤ hi))) rfl rfl rfl (V.pure rfl) (fun a hf => ?_)
    refine S.val hf hs (v := .bool (decide (n ≤ hi))) rfl rfl rfl (V.pure rfl) (fun a hf => ?_)
    refine S.val hf hs (v := .bool (decide (n ≤ hi))) rfl rfl rfl (V.pure rfl) (fun a hf => ?_)
    refine R.nil ?_
    refine X.then_ ?_
    refine wp_ret ?_
    exact L.ret hf (run_results1 Try.results59 (ResIs.tmp hf rfl)) ⟨(decide (n ≤ hi)), rfl, h, hs.nil⟩
  · replace h := h.2 hc
    refine S.skip hf rfl rfl rfl (fun a hf => ?_)
    refine S.skip hf rfl rfl rfl (fun a hf => ?_)
    refine S.skip hf rfl rfl rfl (fun a hf => ?_)
    refine S.val hf hs (v := .bool false) rfl rfl rfl (V.pure rfl) (fun a hf => ?_)
    refine S.val hf hs (v := .bool false) rfl rfl rfl (V.pure rfl) (fun a hf => ?_)
    refine R.nil ?_
    refine X.then_ ?_
    refine wp_ret ?_
    exact L.ret hf (run_results1 Try.results59 (ResIs.tmp hf rfl)) ⟨false, rfl, h, hs.nil⟩

theorem E_ref8_within (n lo hi : Int) : M_ref8_within n lo hi (· = within n lo hi) := by
  unfold M_ref8_within within; constructor <;> intro h <;> simp_all <;> omega
theorem C_ref8_within (n : Int) (lo : Int) (hi : Int) (w0 : World)  : Ret Try.prog 59 #[.int .i64 n, .int .i64 lo, .int .i64 hi] w0 fun v w' => v = .bool (within n lo hi) ∧ Sat w0 none_ [] w' :=
  (R_ref8_within n lo hi w0  (· = (within n lo hi)) (E_ref8_within n lo hi)).mono fun v w' ⟨r0, hv, hr, hs⟩ => ⟨by subst hr; exact hv, hs⟩

set_option linter.unusedVariables false
def M_shape_IsAt (n : Int) (Q : Bool → Prop) : Prop :=
  Q (within n (-1000000) 1000000)
set_option maxHeartbeats 1000000 in
theorem R_shape_IsAt (n : Int) (w0 : World)  (Q : Bool → Prop) (h : M_shape_IsAt n Q) :
    Ret Try.prog 93 #[.int .i64 n] w0 fun v w' => ∃ (r0 : Bool), v = .bool r0 ∧ Q r0 ∧ Sat w0 none_ [] w' := by
  refine fn_enter Try.func93 rfl Try.ntmps93 rfl (fs := [(0, .int .i64 n)]) rfl (fun a hf => ?_)
  have hs := Sat.start w0 none_
  unfold M_shape_IsAt at h
  refine wp_seq ?_
  refine R.list ?_
  refine S.val hf hs (v := .bool false) rfl rfl rfl (V.pure rfl) (fun a hf => ?_)
  refine R.nil ?_
  refine X.then_ ?_
  refine wp_seq ?_
  refine R.list ?_
  refine S.val hf hs (v := .int .i64 n) rfl rfl rfl (V.pure rfl) (fun a hf => ?_)
  refine S.callv hf rfl rfl rfl (call_fn (vs := [.int .i64 n, .int .i64 (-1000000), .int .i64 1000000]) rfl rfl rfl Try.call101) (C_shape_within n (-1000000) 1000000 _ ) (fun a w hf hs' => ?_)
  replace hs := hs.call hs'; clear hs'
  refine S.val hf hs (v := .bool (within n (-1000000) 1000000)) rfl rfl rfl (V.pure rfl) (fun a hf => ?_)
  refine R.nil ?_
  refine X.then_ ?_
  refine wp_ret ?_
  exact L.ret hf (run_results1 Try.results93 (ResIs.tmp hf rfl)) ⟨(within n (-1000000) 1000000), rfl, h, hs.nil⟩

def isAt (n : Int) : Bool := within n (-1000000) 1000000
theorem E_shape_IsAt (n : Int) : M_shape_IsAt n (· = isAt n) := rfl
theorem C_shape_IsAt (n : Int) (w0 : World)  : Ret Try.prog 93 #[.int .i64 n] w0 fun v w' => v = .bool (isAt n) ∧ Sat w0 none_ [] w' :=
  (R_shape_IsAt n w0  (· = (isAt n)) (E_shape_IsAt n)).mono fun v w' ⟨r0, hv, hr, hs⟩ => ⟨by subst hr; exact hv, hs⟩

set_option linter.unusedVariables false
def M_shape_IsPoint (p : Point) (Q : Bool → Prop) : Prop :=
  cnd (isAt p.X) (Q (isAt p.Y)) (Q false)
set_option maxHeartbeats 1000000 in
theorem R_shape_IsPoint (p : Point) (w0 : World)  (Q : Bool → Prop) (h : M_shape_IsPoint p Q) :
    Ret Try.prog 74 #[.agg #[.int .i64 p.X, .int .i64 p.Y]] w0 fun v w' => ∃ (r0 : Bool), v = .bool r0 ∧ Q r0 ∧ Sat w0 none_ [] w' := by
  refine fn_enter Try.func74 rfl Try.ntmps74 rfl (fs := [(0, .agg #[.int .i64 p.X, .int .i64 p.Y])]) rfl (fun a hf => ?_)
  have hs := Sat.start w0 none_
  unfold M_shape_IsPoint at h
  refine wp_seq ?_
  refine R.list ?_
  refine S.box hf hs rfl rfl rfl [.int .i64 p.X, .int .i64 p.Y] rfl rfl rfl (fun g1 a w hf hs => ?_)
  refine S.val hf hs (v := .bool false) rfl rfl rfl (V.pure rfl) (fun a hf => ?_)
  refine R.nil ?_
  refine X.then_ ?_
  refine wp_seq ?_
  refine R.list ?_
  refine S.val hf hs (v := .pointer (some ⟨g1, 0, none⟩)) rfl rfl rfl (V.fieldBox rfl rfl Try.runUnderlying24 rfl Try.sizeOf3 rfl rfl) (fun a hf => ?_)
  refine S.val hf hs (v := .int .i64 p.X) rfl rfl rfl (V.loadBox 0 rfl rfl rfl Try.isAgg3 Try.sizeOf3 rfl rfl) (fun a hf => ?_)
  refine S.callv hf rfl rfl rfl (call_fn (vs := [.int .i64 p.X]) rfl rfl rfl Try.call93) (C_shape_IsAt p.X _ ) (fun a w hf hs' => ?_)
  replace hs := hs.call hs'; clear hs'
  refine S.split hf hs (b := (isAt p.X)) rfl rfl rfl (V.pure rfl) (fun hc a hf => ?_) (fun hc a hf => ?_)
  · replace h := h.1 hc
    refine S.val hf hs (v := .pointer (some ⟨g1, 1, none⟩)) rfl rfl rfl (V.fieldBox rfl rfl Try.runUnderlying24 rfl Try.sizeOf3 rfl rfl) (fun a hf => ?_)
    refine S.val hf hs (v := .int .i64 p.Y) rfl rfl rfl (V.loadBox 0 rfl rfl rfl Try.isAgg3 Try.sizeOf3 rfl rfl) (fun a hf => ?_)
    refine S.callv hf rfl rfl rfl (call_fn (vs := [.int .i64 p.Y]) rfl rfl rfl Try.call93) (C_shape_IsAt p.Y _ ) (fun a w hf hs' => ?_)
    replace hs := hs.call hs'; clear hs'
    refine S.val hf hs (v := .bool (isAt p.Y)) rfl rfl rfl (V.pure rfl) (fun a hf => ?_)
    refine S.val hf hs (v := .bool (isAt p.Y)) rfl rfl rfl (V.pure rfl) (fun a hf => ?_)
    refine R.nil ?_
    refine X.then_ ?_
    refine wp_ret ?_
    exact L.ret hf (run_results1 Try.results74 (ResIs.tmp hf rfl)) ⟨(isAt p.Y), rfl, h, hs.nil⟩
  · replace h := h.2 hc
    refine S.skip hf rfl rfl rfl (fun a hf => ?_)
    refine S.skip hf rfl rfl rfl (fun a hf => ?_)
    refine S.skip hf rfl rfl rfl (fun a hf => ?_)
    refine S.val hf hs (v := .bool false) rfl rfl rfl (V.pure rfl) (fun a hf => ?_)
    refine S.val hf hs (v := .bool false) rfl rfl rfl (V.pure rfl) (fun a hf => ?_)
    refine R.nil ?_
    refine X.then_ ?_
    refine wp_ret ?_
    exact L.ret hf (run_results1 Try.results74 (ResIs.tmp hf rfl)) ⟨false, rfl, h, hs.nil⟩

theorem E_shape_IsPoint (p : Point) : M_shape_IsPoint p (· = isPoint p) := by
  unfold M_shape_IsPoint isPoint isAt; constructor <;> intro h <;> simp_all <;> omega
theorem C_shape_IsPoint (p : Point) (w0 : World)  : Ret Try.prog 74 #[.agg #[.int .i64 p.X, .int .i64 p.Y]] w0 fun v w' => v = .bool (isPoint p) ∧ Sat w0 none_ [] w' :=
  (R_shape_IsPoint p w0  (· = (isPoint p)) (E_shape_IsPoint p)).mono fun v w' ⟨r0, hv, hr, hs⟩ => ⟨by subst hr; exact hv, hs⟩

set_option linter.unusedVariables false
def M_ref8_isPoint (p : Point) (Q : Bool → Prop) : Prop :=
  cnd (within p.X (-1000000) 1000000) (Q (within p.Y (-1000000) 1000000)) (Q false)
set_option maxHeartbeats 1000000 in
theorem R_ref8_isPoint (p : Point) (w0 : World)  (Q : Bool → Prop) (h : M_ref8_isPoint p Q) :
    Ret Try.prog 80 #[.agg #[.int .i64 p.X, .int .i64 p.Y]] w0 fun v w' => ∃ (r0 : Bool), v = .bool r0 ∧ Q r0 ∧ Sat w0 none_ [] w' := by
  refine fn_enter Try.func80 rfl Try.ntmps80 rfl (fs := [(0, .agg #[.int .i64 p.X, .int .i64 p.Y])]) rfl (fun a hf => ?_)
  have hs := Sat.start w0 none_
  unfold M_ref8_isPoint at h
  refine wp_seq ?_
  refine R.list ?_
  refine S.box hf hs rfl rfl rfl [.int .i64 p.X, .int .i64 p.Y] rfl rfl rfl (fun g1 a w hf hs => ?_)
  refine S.val hf hs (v := .bool false) rfl rfl rfl (V.pure rfl) (fun a hf => ?_)
  refine R.nil ?_
  refine X.then_ ?_
  refine wp_seq ?_
  refine R.list ?_
  refine S.val hf hs (v := .pointer (some ⟨g1, 0, none⟩)) rfl rfl rfl (V.fieldBox rfl rfl Try.runUnderlying24 rfl Try.sizeOf3 rfl rfl) (fun a hf => ?_)
  refine S.val hf hs (v := .int .i64 p.X) rfl rfl rfl (V.loadBox 0 rfl rfl rfl Try.isAgg3 Try.sizeOf3 rfl rfl) (fun a hf => ?_)
  refine S.callv hf rfl rfl rfl (call_fn (vs := [.int .i64 p.X, .int .i64 (-1000000), .int .i64 1000000]) rfl rfl rfl Try.call59) (C_ref8_within p.X (-1000000) 1000000 _ ) (fun a w hf hs' => ?_)
  replace hs := hs.call hs'; clear hs'
  refine S.split hf hs (b := (within p.X (-1000000) 1000000)) rfl rfl rfl (V.pure rfl) (fun hc a hf => ?_) (fun hc a hf => ?_)
  · replace h := h.1 hc
    refine S.val hf hs (v := .pointer (some ⟨g1, 1, none⟩)) rfl rfl rfl (V.fieldBox rfl rfl Try.runUnderlying24 rfl Try.sizeOf3 rfl rfl) (fun a hf => ?_)
    refine S.val hf hs (v := .int .i64 p.Y) rfl rfl rfl (V.loadBox 0 rfl rfl rfl Try.isAgg3 Try.sizeOf3 rfl rfl) (fun a hf => ?_)
    refine S.callv hf rfl rfl rfl (call_fn (vs := [.int .i64 p.Y, .int .i64 (-1000000), .int .i64 1000000]) rfl rfl rfl Try.call59) (C_ref8_within p.Y (-1000000) 1000000 _ ) (fun a w hf hs' => ?_)
    replace hs := hs.call hs'; clear hs'
    refine S.val hf hs (v := .bool (within p.Y (-1000000) 1000000)) rfl rfl rfl (V.pure rfl) (fun a hf => ?_)
    refine S.val hf hs (v := .bool (within p.Y (-1000000) 1000000)) rfl rfl rfl (V.pure rfl) (fun a hf => ?_)
    refine R.nil ?_
    refine X.then_ ?_
    refine wp_ret ?_
    exact L.ret hf (run_results1 Try.results80 (ResIs.tmp hf rfl)) ⟨(within p.Y (-1000000) 1000000), rfl, h, hs.nil⟩
  · replace h := h.2 hc
    refine S.skip hf rfl rfl rfl (fun a hf => ?_)
    refine S.skip hf rfl rfl rfl (fun a hf => ?_)
    refine S.skip hf rfl rfl rfl (fun a hf => ?_)
    refine S.val hf hs (v := .bool false) rfl rfl rfl (V.pure rfl) (fun a hf => ?_)
    refine S.val hf hs (v := .bool false) rfl rfl rfl (V.pure rfl) (fun a hf => ?_)
    refine R.nil ?_
    refine X.then_ ?_
    refine wp_ret ?_
    exact L.ret hf (run_results1 Try.results80 (ResIs.tmp hf rfl)) ⟨false, rfl, h, hs.nil⟩

theorem E_ref8_isPoint (p : Point) : M_ref8_isPoint p (· = isPoint p) := by
  unfold M_ref8_isPoint isPoint; constructor <;> intro h <;> simp_all <;> omega
theorem C_ref8_isPoint (p : Point) (w0 : World)  : Ret Try.prog 80 #[.agg #[.int .i64 p.X, .int .i64 p.Y]] w0 fun v w' => v = .bool (isPoint p) ∧ Sat w0 none_ [] w' :=
  (R_ref8_isPoint p w0  (· = (isPoint p)) (E_ref8_isPoint p)).mono fun v w' ⟨r0, hv, hr, hs⟩ => ⟨by subst hr; exact hv, hs⟩

set_option linter.unusedVariables false
def M_drill_apart (a_ : Int) (b : Int) (Q : Int → Prop) : Prop :=
  Q (max (w64 (a_ - b)) (w64 (b - a_)))
set_option maxHeartbeats 1000000 in
theorem R_drill_apart (a_ : Int) (b : Int) (w0 : World)  (Q : Int → Prop) (h : M_drill_apart a_ b Q) :
    Ret Try.prog 56 #[.int .i64 a_, .int .i64 b] w0 fun v w' => ∃ (r0 : Int), v = .int .i64 r0 ∧ Q r0 ∧ Sat w0 none_ [] w' := by
  refine fn_enter Try.func56 rfl Try.ntmps56 rfl (fs := [(0, .int .i64 a_), (1, .int .i64 b)]) rfl (fun a hf => ?_)
  have hs := Sat.start w0 none_
  unfold M_drill_apart at h
  refine wp_seq ?_
  refine R.list ?_
  refine S.val hf hs (v := .int .i64 0) rfl rfl rfl (V.pure rfl) (fun a hf => ?_)
  refine R.nil ?_
  refine X.then_ ?_
  refine wp_seq ?_
  refine R.list ?_
  refine S.val hf hs (v := .int .i64 a_) rfl rfl rfl (V.pure rfl) (fun a hf => ?_)
  refine S.val hf hs (v := .int .i64 b) rfl rfl rfl (V.pure rfl) (fun a hf => ?_)
  refine S.val hf hs (v := .int .i64 (w64 (a_ - b))) rfl rfl rfl (V.pure rfl) (fun a hf => ?_)
  refine S.val hf hs (v := .int .i64 b) rfl rfl rfl (V.pure rfl) (fun a hf => ?_)
  refine S.val hf hs (v := .int .i64 a_) rfl rfl rfl (V.pure rfl) (fun a hf => ?_)
  refine S.val hf hs (v := .int .i64 (w64 (b - a_))) rfl rfl rfl (V.pure rfl) (fun a hf => ?_)
  refine S.val hf hs (v := .int .i64 (max (w64 (a_ - b)) (w64 (b - a_)))) rfl rfl rfl (V.max2 rfl rfl rfl) (fun a hf => ?_)
  refine S.val hf hs (v := .int .i64 (max (w64 (a_ - b)) (w64 (b - a_)))) rfl rfl rfl (V.pure rfl) (fun a hf => ?_)
  refine R.nil ?_
  refine X.then_ ?_
  refine wp_ret ?_
  exact L.ret hf (run_results1 Try.results56 (ResIs.tmp hf rfl)) ⟨(max (w64 (a_ - b)) (w64 (b - a_))), rfl, h, hs.nil⟩

theorem E_drill_apart (a b : Int) : M_drill_apart a b (· = apart a b) := rfl
theorem C_drill_apart (a_ : Int) (b : Int) (w0 : World)  : Ret Try.prog 56 #[.int .i64 a_, .int .i64 b] w0 fun v w' => v = .int .i64 (apart a_ b) ∧ Sat w0 none_ [] w' :=
  (R_drill_apart a_ b w0  (· = (apart a_ b)) (E_drill_apart a_ b)).mono fun v w' ⟨r0, hv, hr, hs⟩ => ⟨by subst hr; exact hv, hs⟩

set_option linter.unusedVariables false
def M_drill_far (p : Point) (q : Point) (Q : Int → Prop) : Prop :=
  Q (max (apart p.X q.X) (apart p.Y q.Y))
set_option maxHeartbeats 1000000 in
theorem R_drill_far (p : Point) (q : Point) (w0 : World)  (Q : Int → Prop) (h : M_drill_far p q Q) :
    Ret Try.prog 61 #[.agg #[.int .i64 p.X, .int .i64 p.Y], .agg #[.int .i64 q.X, .int .i64 q.Y]] w0 fun v w' => ∃ (r0 : Int), v = .int .i64 r0 ∧ Q r0 ∧ Sat w0 none_ [] w' := by
  refine fn_enter Try.func61 rfl Try.ntmps61 rfl (fs := [(0, .agg #[.int .i64 p.X, .int .i64 p.Y]), (1, .agg #[.int .i64 q.X, .int .i64 q.Y])]) rfl (fun a hf => ?_)
  have hs := Sat.start w0 none_
  unfold M_drill_far at h
  refine wp_seq ?_
  refine R.list ?_
  refine S.box hf hs rfl rfl rfl [.int .i64 p.X, .int .i64 p.Y] rfl rfl rfl (fun g1 a w hf hs => ?_)
  refine S.box hf hs rfl rfl rfl [.int .i64 q.X, .int .i64 q.Y] rfl rfl rfl (fun g2 a w hf hs => ?_)
  refine S.val hf hs (v := .int .i64 0) rfl rfl rfl (V.pure rfl) (fun a hf => ?_)
  refine R.nil ?_
  refine X.then_ ?_
  refine wp_seq ?_
  refine R.draw mo (by kernel_rfl) hs ?_
  refine D.val hf (v := .pointer (some ⟨g1, 0, none⟩)) rfl rfl rfl (V.fieldBox rfl rfl Try.runUnderlying24 rfl Try.sizeOf3 rfl rfl) (fun a hf => ?_)
  refine D.val hf (v := .int .i64 p.X) rfl rfl rfl (V.loadBox 1 rfl rfl rfl Try.isAgg3 Try.sizeOf3 rfl rfl) (fun a hf => ?_)
  refine D.val hf (v := .pointer (some ⟨g2, 0, none⟩)) rfl rfl rfl (V.fieldBox rfl rfl Try.runUnderlying24 rfl Try.sizeOf3 rfl rfl) (fun a hf => ?_)
  refine D.val hf (v := .int .i64 q.X) rfl rfl rfl (V.loadBox 0 rfl rfl rfl Try.isAgg3 Try.sizeOf3 rfl rfl) (fun a hf => ?_)
  refine D.call hf (v := .int .i64 (apart p.X q.X)) rfl rfl rfl (call_fn (vs := [.int .i64 p.X, .int .i64 q.X]) rfl rfl rfl Try.call56) (fun w hs => Ret.quiet hs (C_drill_apart p.X q.X w )) (fun a hf => ?_)
  refine D.val hf (v := .pointer (some ⟨g1, 1, none⟩)) rfl rfl rfl (V.fieldBox rfl rfl Try.runUnderlying24 rfl Try.sizeOf3 rfl rfl) (fun a hf => ?_)
  refine D.val hf (v := .int .i64 p.Y) rfl rfl rfl (V.loadBox 1 rfl rfl rfl Try.isAgg3 Try.sizeOf3 rfl rfl) (fun a hf => ?_)
  refine D.val hf (v := .pointer (some ⟨g2, 1, none⟩)) rfl rfl rfl (V.fieldBox rfl rfl Try.runUnderlying24 rfl Try.sizeOf3 rfl rfl) (fun a hf => ?_)
  refine D.val hf (v := .int .i64 q.Y) rfl rfl rfl (V.loadBox 0 rfl rfl rfl Try.isAgg3 Try.sizeOf3 rfl rfl) (fun a hf => ?_)
  refine D.call hf (v := .int .i64 (apart p.Y q.Y)) rfl rfl rfl (call_fn (vs := [.int .i64 p.Y, .int .i64 q.Y]) rfl rfl rfl Try.call56) (fun w hs => Ret.quiet hs (C_drill_apart p.Y q.Y w )) (fun a hf => ?_)
  refine D.val hf (v := .int .i64 (max (apart p.X q.X) (apart p.Y q.Y))) rfl rfl rfl (V.max2 rfl rfl rfl) (fun a hf => ?_)
  refine D.val hf (v := .int .i64 (max (apart p.X q.X) (apart p.Y q.Y))) rfl rfl rfl (V.pure rfl) (fun a hf => ?_)
  refine D.done (fun w hs => ?_)
  refine X.then_ ?_
  refine wp_ret ?_
  exact L.ret hf (run_results1 Try.results61 (ResIs.tmp hf rfl)) ⟨(max (apart p.X q.X) (apart p.Y q.Y)), rfl, h, hs.nil⟩

theorem E_drill_far (p q : Point) : M_drill_far p q (· = far p q) := rfl
theorem C_drill_far (p : Point) (q : Point) (w0 : World)  : Ret Try.prog 61 #[.agg #[.int .i64 p.X, .int .i64 p.Y], .agg #[.int .i64 q.X, .int .i64 q.Y]] w0 fun v w' => v = .int .i64 (far p q) ∧ Sat w0 none_ [] w' :=
  (R_drill_far p q w0  (· = (far p q)) (E_drill_far p q)).mono fun v w' ⟨r0, hv, hr, hs⟩ => ⟨by subst hr; exact hv, hs⟩

set_option linter.unusedVariables false
def M_ref8_abs (n : Int) (Q : Int → Prop) : Prop :=
  Q (max n (w64 (-n)))
set_option maxHeartbeats 1000000 in
theorem R_ref8_abs (n : Int) (w0 : World)  (Q : Int → Prop) (h : M_ref8_abs n Q) :
    Ret Try.prog 84 #[.int .i64 n] w0 fun v w' => ∃ (r0 : Int), v = .int .i64 r0 ∧ Q r0 ∧ Sat w0 none_ [] w' := by
  refine fn_enter Try.func84 rfl Try.ntmps84 rfl (fs := [(0, .int .i64 n)]) rfl (fun a hf => ?_)
  have hs := Sat.start w0 none_
  unfold M_ref8_abs at h
  refine wp_seq ?_
  refine R.list ?_
  refine S.val hf hs (v := .int .i64 0) rfl rfl rfl (V.pure rfl) (fun a hf => ?_)
  refine R.nil ?_
  refine X.then_ ?_
  refine wp_seq ?_
  refine R.list ?_
  refine S.val hf hs (v := .int .i64 n) rfl rfl rfl (V.pure rfl) (fun a hf => ?_)
  refine S.val hf hs (v := .int .i64 n) rfl rfl rfl (V.pure rfl) (fun a hf => ?_)
  refine S.val hf hs (v := .int .i64 (w64 (-n))) rfl rfl rfl (V.pure rfl) (fun a hf => ?_)
  refine S.val hf hs (v := .int .i64 (max n (w64 (-n)))) rfl rfl rfl (V.max2 rfl rfl rfl) (fun a hf => ?_)
  refine S.val hf hs (v := .int .i64 (max n (w64 (-n)))) rfl rfl rfl (V.pure rfl) (fun a hf => ?_)
  refine R.nil ?_
  refine X.then_ ?_
  refine wp_ret ?_
  exact L.ret hf (run_results1 Try.results84 (ResIs.tmp hf rfl)) ⟨(max n (w64 (-n))), rfl, h, hs.nil⟩

def rabs (n : Int) : Int := max n (w64 (-n))
theorem E_ref8_abs (n : Int) : M_ref8_abs n (· = rabs n) := rfl
theorem C_ref8_abs (n : Int) (w0 : World)  : Ret Try.prog 84 #[.int .i64 n] w0 fun v w' => v = .int .i64 (rabs n) ∧ Sat w0 none_ [] w' :=
  (R_ref8_abs n w0  (· = (rabs n)) (E_ref8_abs n)).mono fun v w' ⟨r0, hv, hr, hs⟩ => ⟨by subst hr; exact hv, hs⟩

set_option linter.unusedVariables false
def M_ref8_distance (p : Point) (q : Point) (Q : Int → Prop) : Prop :=
  Q (max (rabs (w64 (p.X - q.X))) (rabs (w64 (p.Y - q.Y))))
set_option maxHeartbeats 1000000 in
theorem R_ref8_distance (p : Point) (q : Point) (w0 : World)  (Q : Int → Prop) (h : M_ref8_distance p q Q) :
    Ret Try.prog 51 #[.agg #[.int .i64 p.X, .int .i64 p.Y], .agg #[.int .i64 q.X, .int .i64 q.Y]] w0 fun v w' => ∃ (r0 : Int), v = .int .i64 r0 ∧ Q r0 ∧ Sat w0 none_ [] w' := by
  refine fn_enter Try.func51 rfl Try.ntmps51 rfl (fs := [(0, .agg #[.int .i64 p.X, .int .i64 p.Y]), (1, .agg #[.int .i64 q.X, .int .i64 q.Y])]) rfl (fun a hf => ?_)
  have hs := Sat.start w0 none_
  unfold M_ref8_distance at h
  refine wp_seq ?_
  refine R.list ?_
  refine S.box hf hs rfl rfl rfl [.int .i64 p.X, .int .i64 p.Y] rfl rfl rfl (fun g1 a w hf hs => ?_)
  refine S.box hf hs rfl rfl rfl [.int .i64 q.X, .int .i64 q.Y] rfl rfl rfl (fun g2 a w hf hs => ?_)
  refine S.val hf hs (v := .int .i64 0) rfl rfl rfl (V.pure rfl) (fun a hf => ?_)
  refine R.nil ?_
  refine X.then_ ?_
  refine wp_seq ?_
  refine R.draw mo (by kernel_rfl) hs ?_
  refine D.val hf (v := .pointer (some ⟨g1, 0, none⟩)) rfl rfl rfl (V.fieldBox rfl rfl Try.runUnderlying24 rfl Try.sizeOf3 rfl rfl) (fun a hf => ?_)
  refine D.val hf (v := .int .i64 p.X) rfl rfl rfl (V.loadBox 1 rfl rfl rfl Try.isAgg3 Try.sizeOf3 rfl rfl) (fun a hf => ?_)
  refine D.val hf (v := .pointer (some ⟨g2, 0, none⟩)) rfl rfl rfl (V.fieldBox rfl rfl Try.runUnderlying24 rfl Try.sizeOf3 rfl rfl) (fun a hf => ?_)
  refine D.val hf (v := .int .i64 q.X) rfl rfl rfl (V.loadBox 0 rfl rfl rfl Try.isAgg3 Try.sizeOf3 rfl rfl) (fun a hf => ?_)
  refine D.val hf (v := .int .i64 (w64 (p.X - q.X))) rfl rfl rfl (V.pure rfl) (fun a hf => ?_)
  refine D.call hf (v := .int .i64 (rabs (w64 (p.X - q.X)))) rfl rfl rfl (call_fn (vs := [.int .i64 (w64 (p.X - q.X))]) rfl rfl rfl Try.call84) (fun w hs => Ret.quiet hs (C_ref8_abs (w64 (p.X - q.X)) w )) (fun a hf => ?_)
  refine D.val hf (v := .pointer (some ⟨g1, 1, none⟩)) rfl rfl rfl (V.fieldBox rfl rfl Try.runUnderlying24 rfl Try.sizeOf3 rfl rfl) (fun a hf => ?_)
  refine D.val hf (v := .int .i64 p.Y) rfl rfl rfl (V.loadBox 1 rfl rfl rfl Try.isAgg3 Try.sizeOf3 rfl rfl) (fun a hf => ?_)
  refine D.val hf (v := .pointer (some ⟨g2, 1, none⟩)) rfl rfl rfl (V.fieldBox rfl rfl Try.runUnderlying24 rfl Try.sizeOf3 rfl rfl) (fun a hf => ?_)
  refine D.val hf (v := .int .i64 q.Y) rfl rfl rfl (V.loadBox 0 rfl rfl rfl Try.isAgg3 Try.sizeOf3 rfl rfl) (fun a hf => ?_)
  refine D.val hf (v := .int .i64 (w64 (p.Y - q.Y))) rfl rfl rfl (V.pure rfl) (fun a hf => ?_)
  refine D.call hf (v := .int .i64 (rabs (w64 (p.Y - q.Y)))) rfl rfl rfl (call_fn (vs := [.int .i64 (w64 (p.Y - q.Y))]) rfl rfl rfl Try.call84) (fun w hs => Ret.quiet hs (C_ref8_abs (w64 (p.Y - q.Y)) w )) (fun a hf => ?_)
  refine D.val hf (v := .int .i64 (max (rabs (w64 (p.X - q.X))) (rabs (w64 (p.Y - q.Y))))) rfl rfl rfl (V.max2 rfl rfl rfl) (fun a hf => ?_)
  refine D.val hf (v := .int .i64 (max (rabs (w64 (p.X - q.X))) (rabs (w64 (p.Y - q.Y))))) rfl rfl rfl (V.pure rfl) (fun a hf => ?_)
  refine D.done (fun w hs => ?_)
  refine X.then_ ?_
  refine wp_ret ?_
  exact L.ret hf (run_results1 Try.results51 (ResIs.tmp hf rfl)) ⟨(max (rabs (w64 (p.X - q.X))) (rabs (w64 (p.Y - q.Y)))), rfl, h, hs.nil⟩

def rdist (p q : Point) : Int := max (rabs (w64 (p.X - q.X))) (rabs (w64 (p.Y - q.Y)))
theorem E_ref8_distance (p q : Point) : M_ref8_distance p q (· = rdist p q) := rfl
theorem C_ref8_distance (p : Point) (q : Point) (w0 : World)  : Ret Try.prog 51 #[.agg #[.int .i64 p.X, .int .i64 p.Y], .agg #[.int .i64 q.X, .int .i64 q.Y]] w0 fun v w' => v = .int .i64 (rdist p q) ∧ Sat w0 none_ [] w' :=
  (R_ref8_distance p q w0  (· = (rdist p q)) (E_ref8_distance p q)).mono fun v w' ⟨r0, hv, hr, hs⟩ => ⟨by subst hr; exact hv, hs⟩


/-! ### the checks of points -/
set_option linter.unusedVariables false
def M_drill_checkPoints1 (p : Point) (Q : Bool → Prop) : Prop :=
  Q (!(isPoint p))
set_option maxHeartbeats 1000000 in
theorem R_drill_checkPoints1 (p : Point) (w0 : World)  (Q : Bool → Prop) (h : M_drill_checkPoints1 p Q) :
    Ret Try.prog 83 #[.agg #[.int .i64 p.X, .int .i64 p.Y]] w0 fun v w' => ∃ (r0 : Bool), v = .bool r0 ∧ Q r0 ∧ Sat w0 none_ [] w' := by
  refine fn_enter Try.func83 rfl Try.ntmps83 rfl (fs := [(0, .agg #[.int .i64 p.X, .int .i64 p.Y])]) rfl (fun a hf => ?_)
  have hs := Sat.start w0 none_
  unfold M_drill_checkPoints1 at h
  refine wp_seq ?_
  refine R.list ?_
  refine S.box hf hs rfl rfl rfl [.int .i64 p.X, .int .i64 p.Y] rfl rfl rfl (fun g1 a w hf hs => ?_)
  refine S.val hf hs (v := .bool false) rfl rfl rfl (V.pure rfl) (fun a hf => ?_)
  refine R.nil ?_
  refine X.then_ ?_
  refine wp_seq ?_
  refine R.list ?_
  refine S.val hf hs (v := .agg #[.int .i64 p.X, .int .i64 p.Y]) rfl rfl rfl (V.loadBox 0 rfl rfl rfl Try.isAgg24 Try.sizeOf24 rfl rfl) (fun a hf => ?_)
  refine S.callv hf rfl rfl rfl (call_fn (vs := [.agg #[.int .i64 p.X, .int .i64 p.Y]]) rfl rfl rfl Try.call74) (C_shape_IsPoint p _ ) (fun a w hf hs' => ?_)
  replace hs := hs.call hs'; clear hs'
  refine S.val hf hs (v := .bool (!(isPoint p))) rfl rfl rfl (V.pure rfl) (fun a hf => ?_)
  refine S.val hf hs (v := .bool (!(isPoint p))) rfl rfl rfl (V.pure rfl) (fun a hf => ?_)
  refine R.nil ?_
  refine X.then_ ?_
  refine wp_ret ?_
  exact L.ret hf (run_results1 Try.results83 (ResIs.tmp hf rfl)) ⟨(!(isPoint p)), rfl, h, hs.nil⟩

theorem E_drill_checkPoints1 (p : Point) : M_drill_checkPoints1 p (· = !(isPoint p)) := rfl
def notPoint (p : Point) : Bool := !(isPoint p)
theorem C_drill_checkPoints1 (p : Point) (w0 : World)  : Ret Try.prog 83 #[.agg #[.int .i64 p.X, .int .i64 p.Y]] w0 fun v w' => v = .bool (notPoint p) ∧ Sat w0 none_ [] w' :=
  (R_drill_checkPoints1 p w0  (· = (notPoint p)) (E_drill_checkPoints1 p)).mono fun v w' ⟨r0, hv, hr, hs⟩ => ⟨by subst hr; exact hv, hs⟩

set_option linter.unusedVariables false
def M_index_notPoint_L1 (Q : Int → Prop) (k1 : Nat) (xk1 : Point)  (next1 : Prop) : Prop :=
  cnd (notPoint xk1) (Q (k1 : Int)) (next1)
def M_index_notPoint (l : (List Point)) (Q : Int → Prop) : Prop :=
  forIn' (fun k x (s : Unit) next => M_index_notPoint_L1 Q k x (next ())) (fun (s : Unit) => Q (-1)) l 0 ()
set_option maxHeartbeats 1000000 in
theorem R_index_notPoint (l : (List Point)) (w0 : World) (lA : Option Addr) (lC : Nat) (hv_l : View w0 (old w0 none_) lA lC l) (Q : Int → Prop) (h : M_index_notPoint l Q) :
    Ret Try.prog 98 #[.slice lA l.length lC, .func (.func 83) #[] #[]] w0 fun v w' => ∃ (r0 : Int), v = .int .i64 r0 ∧ Q r0 ∧ Sat w0 none_ [] w' := by
  refine fn_enter Try.func98 rfl Try.ntmps98 rfl (fs := [(0, .slice lA l.length lC), (1, .func (.func 83) #[] #[])]) rfl (fun a hf => ?_)
  have hs := Sat.start w0 none_
  unfold M_index_notPoint at h
  refine wp_seq ?_
  refine R.list ?_
  refine S.val hf hs (v := .int .i64 0) rfl rfl rfl (V.pure rfl) (fun a hf => ?_)
  refine R.nil ?_
  refine X.then_ ?_
  refine wp_seq ?_
  refine wp_seq ?_
  refine R.list ?_
  refine S.val hf hs (v := .slice lA l.length lC) rfl rfl rfl (V.pure rfl) (fun a hf => ?_)
  refine S.val hf hs (v := .int .i64 (l.length : Int)) rfl rfl rfl (V.len rfl rfl Try.runUnderlying22) (fun a hf => ?_)
  refine S.val hf hs (v := .int .i64 0) rfl rfl rfl (V.pure rfl) (fun a hf => ?_)
  refine R.nil ?_
  refine X.then_ ?_
  refine wp_block ?_
  have hlenk1 := hv_l.len64
  refine C.range (fun (ll : List Point) a w => ∃ (k1 : Nat) , l.drop k1 = ll ∧ k1 + ll.length = l.length ∧ forIn' (fun k x (s : Unit) next => M_index_notPoint_L1 Q k x (next ())) (fun (s : Unit) => Q (-1)) ll k1 () ∧ FrOk 19 [(8, .int .i64 (k1 : Int)), (0, .slice lA l.length lC), (1, .func (.func 83) #[] #[]), (7, .int .i64 (l.length : Int))] a ∧ Sat w0 none_ [] w) l ⟨0, rfl, Nat.zero_add _, h, ((((hf.nil.cons (hf.get 7 _ rfl)).cons (hf.get 1 _ rfl)).cons (hf.get 0 _ rfl)).cons (hf.get 8 _ rfl)), hs⟩ ?_
  clear h hf hs
  rintro llk1 a w ⟨k1, hlk1, hkk1, h, hf, hs⟩
  cases llk1 with
  | nil =>
    have hc := range_done hkk1
    replace h : Q (-1) := h
    refine wp_seq ?_
    refine R.list ?_
    refine S.val hf hs (v := .bool false) rfl rfl rfl (V.cmp false rfl rfl rfl rfl hc) (fun a hf => ?_)
    refine R.nil ?_
    refine X.then_ ?_
    refine wp_seq ?_
    refine C.no hf rfl ?_
    refine wp_exit ?_
    refine X.then_exit ?_
    refine X.then_exit ?_
    refine X.blk_exit ?_
    refine X.then_ ?_
    refine wp_seq ?_
    refine R.list ?_
    refine S.val hf hs (v := .int .i64 (-1)) rfl rfl rfl (V.pure rfl) (fun a hf => ?_)
    refine R.nil ?_
    refine X.then_ ?_
    refine wp_ret ?_
    exact L.ret hf (run_results1 Try.results98 (ResIs.tmp hf rfl)) ⟨(-1), rfl, h, hs.nil⟩
  | cons xk1 llk1 =>
    have hltk1 := range_lt hkk1; have hc := range_go hkk1; have hxk1 := range_get hlk1
    obtain ⟨next1, hnext1⟩ : ∃ X : Prop, X = (forIn' (fun k x (s : Unit) next => M_index_notPoint_L1 Q k x (next ())) (fun (s : Unit) => Q (-1)) llk1 (k1 + 1) ()) := ⟨_, rfl⟩
    replace h : M_index_notPoint_L1 Q k1 xk1  next1 := by rw [hnext1]; exact h
    unfold M_index_notPoint_L1 at h
    refine wp_seq ?_
    refine R.list ?_
    refine S.val hf hs (v := .bool true) rfl rfl rfl (V.cmp true rfl rfl rfl rfl hc) (fun a hf => ?_)
    refine R.nil ?_
    refine X.then_ ?_
    refine wp_seq ?_
    refine C.yes hf rfl ?_
    refine wp_skip ?_
    refine X.then_ ?_
    refine wp_seq ?_
    refine wp_block ?_
    refine wp_seq ?_
    refine R.list ?_
    refine S.val hf hs (v := .int .i64 (k1 : Int)) rfl rfl rfl (V.pure rfl) (fun a hf => ?_)
    refine S.val hf hs (v := .int .i64 (k1 : Int)) rfl rfl rfl (V.pure rfl) (fun a hf => ?_)
    refine R.nil ?_
    refine X.then_ ?_
    refine wp_seq ?_
    refine R.list ?_
    refine S.val hf hs (v := .func (.func 83) #[] #[]) rfl rfl rfl (V.pure rfl) (fun a hf => ?_)
    refine S.val hf hs (v := .slice lA l.length lC) rfl rfl rfl (V.pure rfl) (fun a hf => ?_)
    refine S.val hf hs (v := .int .i64 (k1 : Int)) rfl rfl rfl (V.pure rfl) (fun a hf => ?_)
    refine S.val hf hs (v := elemPtr lA (k1 * 2)) rfl rfl rfl (V.index rfl rfl rfl Try.runUnderlying22 Try.sizeOf24 (hv_l.some_ (lt_of_get hxk1)) (Int.natCast_nonneg _) (lt_of_get hxk1) rfl) (fun a hf => ?_)
    refine S.val hf hs (v := .agg #[.int .i64 xk1.X, .int .i64 xk1.Y]) rfl rfl rfl (V.loadEl (off := 0) (Ag.args _ _ _) (hv_l.flat hxk1) rfl rfl rfl Try.isAgg24 Try.sizeOf24 rfl rfl) (fun a hf => ?_)
    refine S.callv hf rfl rfl rfl (call_fn (vs := [.agg #[.int .i64 xk1.X, .int .i64 xk1.Y]]) rfl rfl rfl Try.call83) (C_drill_checkPoints1 xk1 _ ) (fun a w hf hs' => ?_)
    replace hs := hs.call hs'; clear hs'
    refine R.nil ?_
    refine X.then_ ?_
    refine C.cond hf (b := (notPoint xk1)) rfl (fun hc => ?_) (fun hc => ?_)
    · replace h := h.1 hc
      refine wp_seq ?_
      refine R.list ?_
      refine S.val hf hs (v := .int .i64 (k1 : Int)) rfl rfl rfl (V.pure rfl) (fun a hf => ?_)
      refine S.val hf hs (v := .int .i64 (k1 : Int)) rfl rfl rfl (V.pure rfl) (fun a hf => ?_)
      refine R.nil ?_
      refine X.then_ ?_
      refine wp_ret ?_
      refine X.blk_ret ?_
      refine X.then_ret ?_
      refine X.then_ret ?_
      refine X.blk_ret ?_
      refine X.then_ret ?_
      exact L.ret hf (run_results1 Try.results98 (ResIs.tmp hf rfl)) ⟨(k1 : Int), rfl, h, hs.nil⟩
    · replace h := h.2 hc
      refine wp_skip ?_
      refine X.blk ?_
      refine X.then_ ?_
      refine R.list ?_
      refine S.val hf hs (v := .int .i64 ((k1 + 1 : Nat) : Int)) rfl rfl rfl (V.incr rfl rfl rfl hltk1 hlenk1) (fun a hf => ?_)
      refine S.val hf hs (v := .int .i64 ((k1 + 1 : Nat) : Int)) rfl rfl rfl (V.pure rfl) (fun a hf => ?_)
      refine R.nil ?_
      refine X.then_ ?_
      exact ⟨xk1, llk1, rfl, k1 + 1, range_drop hlk1, range_len hkk1, (by rw [hnext1] at h; exact h), ((((hf.nil.cons (hf.get 7 _ rfl)).cons (hf.get 1 _ rfl)).cons (hf.get 0 _ rfl)).cons (hf.get 8 _ rfl)), hs⟩

set_option linter.unusedVariables false
def M_contains_notPoint (l : (List Point)) (Q : Bool → Prop) : Prop :=
  M_index_notPoint l fun y1 => Q (decide (y1 ≥ 0))
set_option maxHeartbeats 1000000 in
theorem R_contains_notPoint (l : (List Point)) (w0 : World) (lA : Option Addr) (lC : Nat) (hv_l : View w0 (old w0 none_) lA lC l) (Q : Bool → Prop) (h : M_contains_notPoint l Q) :
    Ret Try.prog 82 #[.slice lA l.length lC, .func (.func 83) #[] #[]] w0 fun v w' => ∃ (r0 : Bool), v = .bool r0 ∧ Q r0 ∧ Sat w0 none_ [] w' := by
  refine fn_enter Try.func82 rfl Try.ntmps82 rfl (fs := [(0, .slice lA l.length lC), (1, .func (.func 83) #[] #[])]) rfl (fun a hf => ?_)
  have hs := Sat.start w0 none_
  unfold M_contains_notPoint at h
  refine wp_seq ?_
  refine R.list ?_
  refine S.val hf hs (v := .bool false) rfl rfl rfl (V.pure rfl) (fun a hf => ?_)
  refine R.nil ?_
  refine X.then_ ?_
  refine wp_seq ?_
  refine R.list ?_
  refine S.val hf hs (v := .slice lA l.length lC) rfl rfl rfl (V.pure rfl) (fun a hf => ?_)
  refine S.val hf hs (v := .func (.func 83) #[] #[]) rfl rfl rfl (V.pure rfl) (fun a hf => ?_)
  refine S.call hf rfl rfl rfl (call_fn (vs := [.slice lA l.length lC, .func (.func 83) #[] #[]]) rfl rfl rfl Try.call98) (R_index_notPoint l _ lA lC ((Ag.args _ _ _).view hv_l hs) _ h) (fun v a w' hf hr => ?_)
  obtain ⟨y1, rfl, h2, hs2⟩ := hr
  replace h := h2; replace hs := hs.call hs2; clear h2 hs2
  refine S.val hf hs (v := .bool (decide (y1 ≥ 0))) rfl rfl rfl (V.pure rfl) (fun a hf => ?_)
  refine S.val hf hs (v := .bool (decide (y1 ≥ 0))) rfl rfl rfl (V.pure rfl) (fun a hf => ?_)
  refine R.nil ?_
  refine X.then_ ?_
  refine wp_ret ?_
  exact L.ret hf (run_results1 Try.results82 (ResIs.tmp hf rfl)) ⟨(decide (y1 ≥ 0)), rfl, h, hs.nil⟩

set_option linter.unusedVariables false
def M_drill_checkPoints_k1 (Q : Int → Prop) (c1 : Bool) : Prop :=
  cnd c1 (Q 1) (Q 0)
def M_drill_checkPoints (l : (List Point)) (from_ : Point) (most : Int) (Q : Int → Prop) : Prop :=
  cnd (decide ((l.length : Int) > most)) (Q 2) (cnd (!(isPoint from_)) (M_drill_checkPoints_k1 Q true) (M_contains_notPoint l fun y1 => M_drill_checkPoints_k1 Q y1))
set_option maxHeartbeats 1000000 in
theorem R_drill_checkPoints (l : (List Point)) (from_ : Point) (most : Int) (w0 : World) (lA : Option Addr) (lC : Nat) (hv_l : View w0 (old w0 none_) lA lC l) (Q : Int → Prop) (h : M_drill_checkPoints l from_ most Q) :
    Ret Try.prog 48 #[.slice lA l.length lC, .agg #[.int .i64 from_.X, .int .i64 from_.Y], .int .i64 most] w0 fun v w' => ∃ (r0 : Int), v = .int .i64 r0 ∧ Q r0 ∧ Sat w0 none_ [] w' := by
  refine fn_enter Try.func48 rfl Try.ntmps48 rfl (fs := [(0, .slice lA l.length lC), (1, .agg #[.int .i64 from_.X, .int .i64 from_.Y]), (2, .int .i64 most)]) rfl (fun a hf => ?_)
  have hs := Sat.start w0 none_
  unfold M_drill_checkPoints at h
  refine wp_seq ?_
  refine R.list ?_
  refine S.box hf hs rfl rfl rfl [.int .i64 from_.X, .int .i64 from_.Y] rfl rfl rfl (fun g1 a w hf hs => ?_)
  refine S.val hf hs (v := .int .i64 0) rfl rfl rfl (V.pure rfl) (fun a hf => ?_)
  refine R.nil ?_
  refine X.then_ ?_
  refine wp_seq ?_
  refine wp_seq ?_
  refine R.list ?_
  refine S.val hf hs (v := .slice lA l.length lC) rfl rfl rfl (V.pure rfl) (fun a hf => ?_)
  refine S.val hf hs (v := .int .i64 (l.length : Int)) rfl rfl rfl (V.len rfl rfl Try.runUnderlying22) (fun a hf => ?_)
  refine S.val hf hs (v := .int .i64 most) rfl rfl rfl (V.pure rfl) (fun a hf => ?_)
  refine S.val hf hs (v := .bool (decide ((l.length : Int) > most))) rfl rfl rfl (V.pure rfl) (fun a hf => ?_)
  refine R.nil ?_
  refine X.then_ ?_
  refine C.cond hf (b := decide ((l.length : Int) > most)) rfl (fun hc => ?_) (fun hc => ?_)
  · replace h := h.1 hc
    refine wp_seq ?_
    refine R.list ?_
    refine S.val hf hs (v := .int .i64 2) rfl rfl rfl (V.pure rfl) (fun a hf => ?_)
    refine R.nil ?_
    refine X.then_ ?_
    refine wp_ret ?_
    refine X.then_ret ?_
    exact L.ret hf (run_results1 Try.results48 (ResIs.tmp hf rfl)) ⟨2, rfl, h, hs.nil⟩
  · replace h := h.2 hc
    refine wp_skip ?_
    refine X.then_ ?_
    refine wp_seq ?_
    refine wp_seq ?_
    refine C.cut (J := fun a w => ∃ (c1 : Bool), M_drill_checkPoints_k1 Q c1 ∧ FrOk 18 [(17, .bool c1)] a ∧ Sat w0 none_ [hbox g1 24 [.int .i64 from_.X, .int .i64 from_.Y]] w) ?_ ?_
    · rintro a w ⟨c1, h, hf, hs⟩
      unfold M_drill_checkPoints_k1 at h
      refine C.cond hf (b := c1) rfl (fun hc => ?_) (fun hc => ?_)
      · replace h := h.1 hc
        refine wp_seq ?_
        refine R.list ?_
        refine S.val hf hs (v := .int .i64 1) rfl rfl rfl (V.pure rfl) (fun a hf => ?_)
        refine R.nil ?_
        refine X.then_ ?_
        refine wp_ret ?_
        refine X.then_ret ?_
        exact L.ret hf (run_results1 Try.results48 (ResIs.tmp hf rfl)) ⟨1, rfl, h, hs.nil⟩
      · replace h := h.2 hc
        refine wp_skip ?_
        refine X.then_ ?_
        refine wp_seq ?_
        refine R.list ?_
        refine S.val hf hs (v := .int .i64 0) rfl rfl rfl (V.pure rfl) (fun a hf => ?_)
        refine R.nil ?_
        refine X.then_ ?_
        refine wp_ret ?_
        exact L.ret hf (run_results1 Try.results48 (ResIs.tmp hf rfl)) ⟨0, rfl, h, hs.nil⟩
    · skip
      refine R.list ?_
      refine S.val hf hs (v := .agg #[.int .i64 from_.X, .int .i64 from_.Y]) rfl rfl rfl (V.loadBox 0 rfl rfl rfl Try.isAgg24 Try.sizeOf24 rfl rfl) (fun a hf => ?_)
      refine S.callv hf rfl rfl rfl (call_fn (vs := [.agg #[.int .i64 from_.X, .int .i64 from_.Y]]) rfl rfl rfl Try.call74) (C_shape_IsPoint from_ _ ) (fun a w hf hs' => ?_)
      replace hs := hs.call hs'; clear hs'
      refine S.val hf hs (v := .bool (!(isPoint from_))) rfl rfl rfl (V.pure rfl) (fun a hf => ?_)
      refine S.split hf hs (b := !(isPoint from_)) rfl rfl rfl (V.pure rfl) (fun hc a hf => ?_) (fun hc a hf => ?_)
      · replace h := h.1 hc
        refine S.skip hf rfl rfl rfl (fun a hf => ?_)
        refine S.skip hf rfl rfl rfl (fun a hf => ?_)
        refine S.val hf hs (v := .bool true) rfl rfl rfl (V.pure rfl) (fun a hf => ?_)
        refine R.nil ?_
        refine X.then_ ?_
        exact ⟨true, h, (hf.nil.cons (hf.get 17 _ rfl)), hs⟩
      · replace h := h.2 hc
        refine S.val hf hs (v := .slice lA l.length lC) rfl rfl rfl (V.pure rfl) (fun a hf => ?_)
        refine S.call hf rfl rfl rfl (call_fn (vs := [.slice lA l.length lC, .func (.func 83) #[] #[]]) rfl rfl rfl Try.call82) (R_contains_notPoint l _ lA lC ((Ag.args _ _ _).view hv_l hs) _ h) (fun v a w' hf hr => ?_)
        obtain ⟨y1, rfl, h2, hs2⟩ := hr
        replace h := h2; replace hs := hs.call hs2; clear h2 hs2
        refine S.val hf hs (v := .bool y1) rfl rfl rfl (V.pure rfl) (fun a hf => ?_)
        refine R.nil ?_
        refine X.then_ ?_
        exact ⟨y1, h, (hf.nil.cons (hf.get 17 _ rfl)), hs⟩

set_option linter.unusedVariables false
def M_ref8_askPoints_L1 (Q : Int → Prop) (k1 : Nat) (xk1 : Point)  (next1 : Prop) : Prop :=
  cnd (!(isPoint xk1)) (Q 1) (next1)
def M_ref8_askPoints (l : (List Point)) (from_ : Point) (most : Int) (Q : Int → Prop) : Prop :=
  cnd (decide ((l.length : Int) > most)) (Q 2) (must (room ([from_] ++ l).length 16) (forIn' (fun k x (s : Unit) next => M_ref8_askPoints_L1 Q k x (next ())) (fun (s : Unit) => Q 0) ([from_] ++ l) 0 ()))
set_option maxHeartbeats 1000000 in
theorem R_ref8_askPoints (l : (List Point)) (from_ : Point) (most : Int) (w0 : World) (lA : Option Addr) (lC : Nat) (hv_l : View w0 (old w0 none_) lA lC l) (Q : Int → Prop) (h : M_ref8_askPoints l from_ most Q) :
    Ret Try.prog 50 #[.slice lA l.length lC, .agg #[.int .i64 from_.X, .int .i64 from_.Y], .int .i64 most] w0 fun v w' => ∃ (r0 : Int), v = .int .i64 r0 ∧ Q r0 ∧ Sat w0 none_ [] w' := by
  refine fn_enter Try.func50 rfl Try.ntmps50 rfl (fs := [(0, .slice lA l.length lC), (1, .agg #[.int .i64 from_.X, .int .i64 from_.Y]), (2, .int .i64 most)]) rfl (fun a hf => ?_)
  have hs := Sat.start w0 none_
  unfold M_ref8_askPoints at h
  refine wp_seq ?_
  refine R.list ?_
  refine S.box hf hs rfl rfl rfl [.int .i64 from_.X, .int .i64 from_.Y] rfl rfl rfl (fun g1 a w hf hs => ?_)
  refine S.val hf hs (v := .int .i64 0) rfl rfl rfl (V.pure rfl) (fun a hf => ?_)
  refine R.nil ?_
  refine X.then_ ?_
  refine wp_seq ?_
  refine wp_seq ?_
  refine R.list ?_
  refine S.val hf hs (v := .slice lA l.length lC) rfl rfl rfl (V.pure rfl) (fun a hf => ?_)
  refine S.val hf hs (v := .int .i64 (l.length : Int)) rfl rfl rfl (V.len rfl rfl Try.runUnderlying22) (fun a hf => ?_)
  refine S.val hf hs (v := .int .i64 most) rfl rfl rfl (V.pure rfl) (fun a hf => ?_)
  refine S.val hf hs (v := .bool (decide ((l.length : Int) > most))) rfl rfl rfl (V.pure rfl) (fun a hf => ?_)
  refine R.nil ?_
  refine X.then_ ?_
  refine C.cond hf (b := decide ((l.length : Int) > most)) rfl (fun hc => ?_) (fun hc => ?_)
  · replace h := h.1 hc
    refine wp_seq ?_
    refine R.list ?_
    refine S.val hf hs (v := .int .i64 2) rfl rfl rfl (V.pure rfl) (fun a hf => ?_)
    refine R.nil ?_
    refine X.then_ ?_
    refine wp_ret ?_
    refine X.then_ret ?_
    exact L.ret hf (run_results1 Try.results50 (ResIs.tmp hf rfl)) ⟨2, rfl, h, hs.nil⟩
  · replace h := h.2 hc
    refine wp_skip ?_
    refine X.then_ ?_
    refine wp_seq ?_
    refine wp_seq ?_
    refine R.list ?_
    refine S.val hf hs (v := .agg #[.int .i64 from_.X, .int .i64 from_.Y]) rfl rfl rfl (V.loadBox 0 rfl rfl rfl Try.isAgg24 Try.sizeOf24 rfl rfl) (fun a hf => ?_)
    refine S.build1 hf hs rfl rfl rfl (α := Point) from_ rfl rfl rfl Try.runUnderlying22 Try.sizeOf24 Try.zeroValue24 rfl (by decide) (fun A1 a w hf hs => ?_)
    refine S.val hf hs (v := .slice lA l.length lC) rfl rfl rfl (V.pure rfl) (fun a hf => ?_)
    obtain ⟨hroom, h⟩ := h
    refine S.appendAny 0 hf hs rfl rfl rfl rfl rfl rfl rfl Try.underlying22 info24 rfl hroom ((Ag.args _ _ _).view hv_l hs) (fun A2 C1 a w hf hs => ?_)
    refine S.val hf hs (v := .int .i64 (([from_] ++ l).length : Int)) rfl rfl rfl (V.len rfl rfl Try.runUnderlying22) (fun a hf => ?_)
    refine S.val hf hs (v := .int .i64 0) rfl rfl rfl (V.pure rfl) (fun a hf => ?_)
    refine R.nil ?_
    refine X.then_ ?_
    refine wp_block ?_
    have hlenk1 := (hs.ownView 0 rfl).len64
    refine C.range (fun (ll : List Point) a w => ∃ (k1 : Nat) , ([from_] ++ l).drop k1 = ll ∧ k1 + ll.length = ([from_] ++ l).length ∧ forIn' (fun k x (s : Unit) next => M_ref8_askPoints_L1 Q k x (next ())) (fun (s : Unit) => Q 0) ll k1 () ∧ FrOk 26 [(18, .int .i64 (k1 : Int)), (16, .slice A2 ([from_] ++ l).length C1), (17, .int .i64 (([from_] ++ l).length : Int))] a ∧ Sat w0 none_ [hown 24 A2 C1 ([from_] ++ l), hbox g1 24 [.int .i64 from_.X, .int .i64 from_.Y]] w) ([from_] ++ l) ⟨0, rfl, Nat.zero_add _, h, (((hf.nil.cons (hf.get 17 _ rfl)).cons (hf.get 16 _ rfl)).cons (hf.get 18 _ rfl)), hs⟩ ?_
    clear h hf hs
    rintro llk1 a w ⟨k1, hlk1, hkk1, h, hf, hs⟩
    cases llk1 with
    | nil =>
      have hc := range_done hkk1
      replace h : Q 0 := h
      refine wp_seq ?_
      refine R.list ?_
      refine S.val hf hs (v := .bool false) rfl rfl rfl (V.cmp false rfl rfl rfl rfl hc) (fun a hf => ?_)
      refine R.nil ?_
      refine X.then_ ?_
      refine wp_seq ?_
      refine C.no hf rfl ?_
      refine wp_exit ?_
      refine X.then_exit ?_
      refine X.then_exit ?_
      refine X.blk_exit ?_
      refine X.then_ ?_
      refine wp_seq ?_
      refine R.list ?_
      refine S.val hf hs (v := .int .i64 0) rfl rfl rfl (V.pure rfl) (fun a hf => ?_)
      refine R.nil ?_
      refine X.then_ ?_
      refine wp_ret ?_
      exact L.ret hf (run_results1 Try.results50 (ResIs.tmp hf rfl)) ⟨0, rfl, h, hs.nil⟩
    | cons xk1 llk1 =>
      have hltk1 := range_lt hkk1; have hc := range_go hkk1; have hxk1 := range_get hlk1
      obtain ⟨next1, hnext1⟩ : ∃ X : Prop, X = (forIn' (fun k x (s : Unit) next => M_ref8_askPoints_L1 Q k x (next ())) (fun (s : Unit) => Q 0) llk1 (k1 + 1) ()) := ⟨_, rfl⟩
      replace h : M_ref8_askPoints_L1 Q k1 xk1  next1 := by rw [hnext1]; exact h
      unfold M_ref8_askPoints_L1 at h
      refine wp_seq ?_
      refine R.list ?_
      refine S.val hf hs (v := .bool true) rfl rfl rfl (V.cmp true rfl rfl rfl rfl hc) (fun a hf => ?_)
      refine R.nil ?_
      refine X.then_ ?_
      refine wp_seq ?_
      refine C.yes hf rfl ?_
      refine wp_skip ?_
      refine X.then_ ?_
      refine wp_seq ?_
      refine wp_block ?_
      refine wp_seq ?_
      refine R.list ?_
      refine S.val hf hs (v := elemPtr A2 (k1 * 2)) rfl rfl rfl (V.index rfl rfl rfl Try.runUnderlying22 Try.sizeOf24 (hs.ownSome 0 rfl (lt_of_get hxk1)) (Int.natCast_nonneg _) (lt_of_get hxk1) rfl) (fun a hf => ?_)
      refine S.val hf hs (v := .agg #[.int .i64 xk1.X, .int .i64 xk1.Y]) rfl rfl rfl (V.loadOwn (off := 0) 0 rfl hxk1 rfl rfl rfl Try.isAgg24 Try.sizeOf24 rfl rfl) (fun a hf => ?_)
      refine S.alloc hf hs rfl rfl rfl [.int .i64 0, .int .i64 0] rfl Try.zeroValue24 rfl (fun g2 a w hf hs => ?_)
      refine S.storeBox 0 hf hs rfl rfl [.int .i64 xk1.X, .int .i64 xk1.Y] [.int .i64 xk1.X, .int .i64 xk1.Y] rfl rfl rfl rfl rfl Try.sizeOf24 rfl rfl rfl rfl (fun a w hf hs => ?_)
      refine R.nil ?_
      refine X.then_ ?_
      refine wp_seq ?_
      refine R.list ?_
      refine S.val hf hs (v := .agg #[.int .i64 xk1.X, .int .i64 xk1.Y]) rfl rfl rfl (V.loadBox 0 rfl rfl rfl Try.isAgg24 Try.sizeOf24 rfl rfl) (fun a hf => ?_)
      refine S.callv hf rfl rfl rfl (call_fn (vs := [.agg #[.int .i64 xk1.X, .int .i64 xk1.Y]]) rfl rfl rfl Try.call80) (C_ref8_isPoint xk1 _ ) (fun a w hf hs' => ?_)
      replace hs := hs.call hs'; clear hs'
      refine S.val hf hs (v := .bool (!(isPoint xk1))) rfl rfl rfl (V.pure rfl) (fun a hf => ?_)
      refine R.nil ?_
      refine X.then_ ?_
      refine C.cond hf (b := !(isPoint xk1)) rfl (fun hc => ?_) (fun hc => ?_)
      · replace h := h.1 hc
        refine wp_seq ?_
        refine R.list ?_
        refine S.val hf hs (v := .int .i64 1) rfl rfl rfl (V.pure rfl) (fun a hf => ?_)
        refine R.nil ?_
        refine X.then_ ?_
        refine wp_ret ?_
        refine X.blk_ret ?_
        refine X.then_ret ?_
        refine X.then_ret ?_
        refine X.blk_ret ?_
        refine X.then_ret ?_
        exact L.ret hf (run_results1 Try.results50 (ResIs.tmp hf rfl)) ⟨1, rfl, h, hs.nil⟩
      · replace h := h.2 hc
        refine wp_skip ?_
        refine X.blk ?_
        refine X.then_ ?_
        refine R.list ?_
        refine S.val hf hs (v := .int .i64 ((k1 + 1 : Nat) : Int)) rfl rfl rfl (V.incr rfl rfl rfl hltk1 hlenk1) (fun a hf => ?_)
        refine S.val hf hs (v := .int .i64 ((k1 + 1 : Nat) : Int)) rfl rfl rfl (V.pure rfl) (fun a hf => ?_)
        refine R.nil ?_
        refine X.then_ ?_
        exact ⟨xk1, llk1, rfl, k1 + 1, range_drop hlk1, range_len hkk1, (by rw [hnext1] at h; exact h), (((hf.nil.cons (hf.get 17 _ rfl)).cons (hf.get 16 _ rfl)).cons (hf.get 18 _ rfl)), hs.drop⟩

set_option linter.unusedVariables false
def M_drill_way_L1  (k1 : Nat) (xk1 : Point) (b2 : Point) (n2 : Int) (next1 : Point → Int → Prop) : Prop :=
  next1 xk1 (w64 (n2 + (far b2 xk1)))
def M_drill_way (l : (List Point)) (from_ : Point) (Q : Int → Prop) : Prop :=
  forIn' (fun k x (s : Point × Int) next => M_drill_way_L1 k x s.1 s.2 (fun b2 n2 => next (b2, n2))) (fun (s : Point × Int) => (fun (b2 : Point) (n2 : Int) => Q n2) s.1 s.2) l 0 (from_, 0)
set_option maxHeartbeats 1000000 in
theorem R_drill_way (l : (List Point)) (from_ : Point) (w0 : World) (lA : Option Addr) (lC : Nat) (hv_l : View w0 (old w0 none_) lA lC l) (Q : Int → Prop) (h : M_drill_way l from_ Q) :
    Ret Try.prog 49 #[.slice lA l.length lC, .agg #[.int .i64 from_.X, .int .i64 from_.Y]] w0 fun v w' => ∃ (r0 : Int), v = .int .i64 r0 ∧ Q r0 ∧ Sat w0 none_ [] w' := by
  refine fn_enter Try.func49 rfl Try.ntmps49 rfl (fs := [(0, .slice lA l.length lC), (1, .agg #[.int .i64 from_.X, .int .i64 from_.Y])]) rfl (fun a hf => ?_)
  have hs := Sat.start w0 none_
  unfold M_drill_way at h
  refine wp_seq ?_
  refine R.list ?_
  refine S.box hf hs rfl rfl rfl [.int .i64 from_.X, .int .i64 from_.Y] rfl rfl rfl (fun g1 a w hf hs => ?_)
  refine S.val hf hs (v := .int .i64 0) rfl rfl rfl (V.pure rfl) (fun a hf => ?_)
  refine R.nil ?_
  refine X.then_ ?_
  refine wp_seq ?_
  refine R.list ?_
  refine S.val hf hs (v := .int .i64 0) rfl rfl rfl (V.pure rfl) (fun a hf => ?_)
  refine R.nil ?_
  refine X.then_ ?_
  refine wp_seq ?_
  refine wp_seq ?_
  refine R.list ?_
  refine S.val hf hs (v := .slice lA l.length lC) rfl rfl rfl (V.pure rfl) (fun a hf => ?_)
  refine S.val hf hs (v := .int .i64 (l.length : Int)) rfl rfl rfl (V.len rfl rfl Try.runUnderlying22) (fun a hf => ?_)
  refine S.val hf hs (v := .int .i64 0) rfl rfl rfl (V.pure rfl) (fun a hf => ?_)
  refine R.nil ?_
  refine X.then_ ?_
  refine wp_block ?_
  have hlenk1 := hv_l.len64
  refine C.range (fun (ll : List Point) a w => ∃ (k1 : Nat) (b2 : Point) (n2 : Int), l.drop k1 = ll ∧ k1 + ll.length = l.length ∧ forIn' (fun k x (s : Point × Int) next => M_drill_way_L1 k x s.1 s.2 (fun b2 n2 => next (b2, n2))) (fun (s : Point × Int) => (fun (b2 : Point) (n2 : Int) => Q n2) s.1 s.2) ll k1 (b2, n2) ∧ FrOk 22 [(10, .int .i64 (k1 : Int)), (3, .pointer (some ⟨g1, 0, none⟩)), (5, .int .i64 n2), (8, .slice lA l.length lC), (9, .int .i64 (l.length : Int))] a ∧ Sat w0 none_ [hbox g1 24 [.int .i64 b2.X, .int .i64 b2.Y]] w) l ⟨0, from_, 0, rfl, Nat.zero_add _, h, (((((hf.nil.cons (hf.get 9 _ rfl)).cons (hf.get 8 _ rfl)).cons (hf.get 5 _ rfl)).cons (hf.get 3 _ rfl)).cons (hf.get 10 _ rfl)), hs⟩ ?_
  clear h hf hs
  rintro llk1 a w ⟨k1, b2, n2, hlk1, hkk1, h, hf, hs⟩
  cases llk1 with
  | nil =>
    have hc := range_done hkk1
    replace h : (fun (b2 : Point) (n2 : Int) => Q n2) b2 n2 := h
    refine wp_seq ?_
    refine R.list ?_
    refine S.val hf hs (v := .bool false) rfl rfl rfl (V.cmp false rfl rfl rfl rfl hc) (fun a hf => ?_)
    refine R.nil ?_
    refine X.then_ ?_
    refine wp_seq ?_
    refine C.no hf rfl ?_
    refine wp_exit ?_
    refine X.then_exit ?_
    refine X.then_exit ?_
    refine X.blk_exit ?_
    refine X.then_ ?_
    refine wp_seq ?_
    refine R.list ?_
    refine S.val hf hs (v := .int .i64 n2) rfl rfl rfl (V.pure rfl) (fun a hf => ?_)
    refine S.val hf hs (v := .int .i64 n2) rfl rfl rfl (V.pure rfl) (fun a hf => ?_)
    refine R.nil ?_
    refine X.then_ ?_
    refine wp_ret ?_
    exact L.ret hf (run_results1 Try.results49 (ResIs.tmp hf rfl)) ⟨n2, rfl, h, hs.nil⟩
  | cons xk1 llk1 =>
    have hltk1 := range_lt hkk1; have hc := range_go hkk1; have hxk1 := range_get hlk1
    obtain ⟨next1, hnext1⟩ : ∃ X : Point → Int → Prop, X = (fun b2 n2 => forIn' (fun k x (s : Point × Int) next => M_drill_way_L1 k x s.1 s.2 (fun b2 n2 => next (b2, n2))) (fun (s : Point × Int) => (fun (b2 : Point) (n2 : Int) => Q n2) s.1 s.2) llk1 (k1 + 1) (b2, n2)) := ⟨_, rfl⟩
    replace h : M_drill_way_L1 k1 xk1 b2 n2 next1 := by rw [hnext1]; exact h
    unfold M_drill_way_L1 at h
    refine wp_seq ?_
    refine R.list ?_
    refine S.val hf hs (v := .bool true) rfl rfl rfl (V.cmp true rfl rfl rfl rfl hc) (fun a hf => ?_)
    refine R.nil ?_
    refine X.then_ ?_
    refine wp_seq ?_
    refine C.yes hf rfl ?_
    refine wp_skip ?_
    refine X.then_ ?_
    refine wp_seq ?_
    refine wp_block ?_
    refine wp_seq ?_
    refine R.list ?_
    refine S.val hf hs (v := elemPtr lA (k1 * 2)) rfl rfl rfl (V.index rfl rfl rfl Try.runUnderlying22 Try.sizeOf24 (hv_l.some_ (lt_of_get hxk1)) (Int.natCast_nonneg _) (lt_of_get hxk1) rfl) (fun a hf => ?_)
    refine S.val hf hs (v := .agg #[.int .i64 xk1.X, .int .i64 xk1.Y]) rfl rfl rfl (V.loadEl (off := 0) (Ag.args _ _ _) (hv_l.flat hxk1) rfl rfl rfl Try.isAgg24 Try.sizeOf24 rfl rfl) (fun a hf => ?_)
    refine S.alloc hf hs rfl rfl rfl [.int .i64 0, .int .i64 0] rfl Try.zeroValue24 rfl (fun g2 a w hf hs => ?_)
    refine S.storeBox 0 hf hs rfl rfl [.int .i64 xk1.X, .int .i64 xk1.Y] [.int .i64 xk1.X, .int .i64 xk1.Y] rfl rfl rfl rfl rfl Try.sizeOf24 rfl rfl rfl rfl (fun a w hf hs => ?_)
    refine R.nil ?_
    refine X.then_ ?_
    refine wp_seq ?_
    refine R.list ?_
    refine S.val hf hs (v := .int .i64 n2) rfl rfl rfl (V.pure rfl) (fun a hf => ?_)
    refine S.val hf hs (v := .agg #[.int .i64 b2.X, .int .i64 b2.Y]) rfl rfl rfl (V.loadBox 1 rfl rfl rfl Try.isAgg24 Try.sizeOf24 rfl rfl) (fun a hf => ?_)
    refine S.val hf hs (v := .agg #[.int .i64 xk1.X, .int .i64 xk1.Y]) rfl rfl rfl (V.loadBox 0 rfl rfl rfl Try.isAgg24 Try.sizeOf24 rfl rfl) (fun a hf => ?_)
    refine S.callv hf rfl rfl rfl (call_fn (vs := [.agg #[.int .i64 b2.X, .int .i64 b2.Y], .agg #[.int .i64 xk1.X, .int .i64 xk1.Y]]) rfl rfl rfl Try.call61) (C_drill_far b2 xk1 _ ) (fun a w hf hs' => ?_)
    replace hs := hs.call hs'; clear hs'
    refine S.val hf hs (v := .int .i64 (w64 (n2 + (far b2 xk1)))) rfl rfl rfl (V.pure rfl) (fun a hf => ?_)
    refine S.val hf hs (v := .int .i64 (w64 (n2 + (far b2 xk1)))) rfl rfl rfl (V.pure rfl) (fun a hf => ?_)
    refine R.nil ?_
    refine X.then_ ?_
    refine R.list ?_
    refine S.val hf hs (v := .agg #[.int .i64 xk1.X, .int .i64 xk1.Y]) rfl rfl rfl (V.loadBox 0 rfl rfl rfl Try.isAgg24 Try.sizeOf24 rfl rfl) (fun a hf => ?_)
    refine S.storeBox 1 hf hs rfl rfl [.int .i64 xk1.X, .int .i64 xk1.Y] [.int .i64 xk1.X, .int .i64 xk1.Y] rfl rfl rfl rfl rfl Try.sizeOf24 rfl rfl rfl rfl (fun a w hf hs => ?_)
    refine R.nil ?_
    refine X.blk ?_
    refine X.then_ ?_
    refine R.list ?_
    refine S.val hf hs (v := .int .i64 ((k1 + 1 : Nat) : Int)) rfl rfl rfl (V.incr rfl rfl rfl hltk1 hlenk1) (fun a hf => ?_)
    refine S.val hf hs (v := .int .i64 ((k1 + 1 : Nat) : Int)) rfl rfl rfl (V.pure rfl) (fun a hf => ?_)
    refine R.nil ?_
    refine X.then_ ?_
    exact ⟨xk1, llk1, rfl, k1 + 1, xk1, (w64 (n2 + (far b2 xk1))), range_drop hlk1, range_len hkk1, (by rw [hnext1] at h; exact h), (((((hf.nil.cons (hf.get 9 _ rfl)).cons (hf.get 8 _ rfl)).cons (hf.get 5 _ rfl)).cons (hf.get 3 _ rfl)).cons (hf.get 10 _ rfl)), hs.drop⟩

set_option linter.unusedVariables false
def M_drill_Way (l : (List Point)) (from_ : Point) (Q : Int → Int → Prop) : Prop :=
  M_drill_checkPoints l from_ 2000 fun y1 => cnd (y1 != 0) (Q 0 y1) (M_drill_way l from_ fun y2 => Q y2 0)
set_option maxHeartbeats 1000000 in
theorem R_drill_Way (l : (List Point)) (from_ : Point) (w0 : World) (lA : Option Addr) (lC : Nat) (hv_l : View w0 (old w0 none_) lA lC l) (Q : Int → Int → Prop) (h : M_drill_Way l from_ Q) :
    Ret Try.prog 15 #[.slice lA l.length lC, .agg #[.int .i64 from_.X, .int .i64 from_.Y]] w0 fun v w' => ∃ (r0 : Int) (r1 : Int), v = .tuple #[.int .i64 r0, .int .i64 r1] ∧ Q r0 r1 ∧ Sat w0 none_ [] w' := by
  refine fn_enter Try.func15 rfl Try.ntmps15 rfl (fs := [(0, .slice lA l.length lC), (1, .agg #[.int .i64 from_.X, .int .i64 from_.Y])]) rfl (fun a hf => ?_)
  have hs := Sat.start w0 none_
  unfold M_drill_Way at h
  refine wp_seq ?_
  refine R.list ?_
  refine S.box hf hs rfl rfl rfl [.int .i64 from_.X, .int .i64 from_.Y] rfl rfl rfl (fun g1 a w hf hs => ?_)
  refine S.val hf hs (v := .int .i64 0) rfl rfl rfl (V.pure rfl) (fun a hf => ?_)
  refine S.val hf hs (v := .int .i64 0) rfl rfl rfl (V.pure rfl) (fun a hf => ?_)
  refine R.nil ?_
  refine X.then_ ?_
  refine wp_seq ?_
  refine wp_seq ?_
  refine R.list ?_
  refine S.val hf hs (v := .slice lA l.length lC) rfl rfl rfl (V.pure rfl) (fun a hf => ?_)
  refine S.val hf hs (v := .agg #[.int .i64 from_.X, .int .i64 from_.Y]) rfl rfl rfl (V.loadBox 0 rfl rfl rfl Try.isAgg24 Try.sizeOf24 rfl rfl) (fun a hf => ?_)
  refine S.call hf rfl rfl rfl (call_fn (vs := [.slice lA l.length lC, .agg #[.int .i64 from_.X, .int .i64 from_.Y], .int .i64 2000]) rfl rfl rfl Try.call48) (R_drill_checkPoints l from_ 2000 _ lA lC ((Ag.args _ _ _).view hv_l hs) _ h) (fun v a w' hf hr => ?_)
  obtain ⟨y1, rfl, h2, hs2⟩ := hr
  replace h := h2; replace hs := hs.call hs2; clear h2 hs2
  refine S.val hf hs (v := .int .i64 y1) rfl rfl rfl (V.pure rfl) (fun a hf => ?_)
  refine R.nil ?_
  refine X.then_ ?_
  refine wp_seq ?_
  refine R.list ?_
  refine S.val hf hs (v := .int .i64 y1) rfl rfl rfl (V.pure rfl) (fun a hf => ?_)
  refine S.val hf hs (v := .bool (y1 != 0)) rfl rfl rfl (V.pure rfl) (fun a hf => ?_)
  refine R.nil ?_
  refine X.then_ ?_
  refine C.cond hf (b := y1 != 0) rfl (fun hc => ?_) (fun hc => ?_)
  · replace h := h.1 hc
    refine wp_seq ?_
    refine R.list ?_
    refine S.val hf hs (v := .int .i64 y1) rfl rfl rfl (V.pure rfl) (fun a hf => ?_)
    refine S.val hf hs (v := .int .i64 0) rfl rfl rfl (V.pure rfl) (fun a hf => ?_)
    refine S.val hf hs (v := .int .i64 y1) rfl rfl rfl (V.pure rfl) (fun a hf => ?_)
    refine R.nil ?_
    refine X.then_ ?_
    refine wp_ret ?_
    refine X.then_ret ?_
    exact L.ret hf (run_results2 Try.results15 (ResIs.tmp hf rfl) (ResIs.tmp hf rfl)) ⟨0, y1, rfl, h, hs.nil⟩
  · replace h := h.2 hc
    refine wp_skip ?_
    refine X.then_ ?_
    refine wp_seq ?_
    refine R.list ?_
    refine S.val hf hs (v := .slice lA l.length lC) rfl rfl rfl (V.pure rfl) (fun a hf => ?_)
    refine S.val hf hs (v := .agg #[.int .i64 from_.X, .int .i64 from_.Y]) rfl rfl rfl (V.loadBox 0 rfl rfl rfl Try.isAgg24 Try.sizeOf24 rfl rfl) (fun a hf => ?_)
    refine S.call hf rfl rfl rfl (call_fn (vs := [.slice lA l.length lC, .agg #[.int .i64 from_.X, .int .i64 from_.Y]]) rfl rfl rfl Try.call49) (R_drill_way l from_ _ lA lC ((Ag.args _ _ _).view hv_l hs) _ h) (fun v a w' hf hr => ?_)
    obtain ⟨y2, rfl, h2, hs2⟩ := hr
    replace h := h2; replace hs := hs.call hs2; clear h2 hs2
    refine S.val hf hs (v := .int .i64 y2) rfl rfl rfl (V.pure rfl) (fun a hf => ?_)
    refine S.val hf hs (v := .int .i64 0) rfl rfl rfl (V.pure rfl) (fun a hf => ?_)
    refine R.nil ?_
    refine X.then_ ?_
    refine wp_ret ?_
    exact L.ret hf (run_results2 Try.results15 (ResIs.tmp hf rfl) (ResIs.tmp hf rfl)) ⟨y2, 0, rfl, h, hs.nil⟩

set_option linter.unusedVariables false
def M_ref8_Way_L1  (k1 : Nat) (xk1 : Point) (b2 : Point) (n2 : Int) (next1 : Point → Int → Prop) : Prop :=
  next1 xk1 (w64 (n2 + (rdist b2 xk1)))
def M_ref8_Way (l : (List Point)) (from_ : Point) (Q : Int → Int → Prop) : Prop :=
  M_ref8_askPoints l from_ 2000 fun y1 => cnd (y1 != 0) (Q 0 y1) (forIn' (fun k x (s : Point × Int) next => M_ref8_Way_L1 k x s.1 s.2 (fun b2 n2 => next (b2, n2))) (fun (s : Point × Int) => (fun (b2 : Point) (n2 : Int) => Q n2 0) s.1 s.2) l 0 (from_, 0))
set_option maxHeartbeats 1000000 in
theorem R_ref8_Way (l : (List Point)) (from_ : Point) (w0 : World) (lA : Option Addr) (lC : Nat) (hv_l : View w0 (old w0 none_) lA lC l) (Q : Int → Int → Prop) (h : M_ref8_Way l from_ Q) :
    Ret Try.prog 16 #[.slice lA l.length lC, .agg #[.int .i64 from_.X, .int .i64 from_.Y]] w0 fun v w' => ∃ (r0 : Int) (r1 : Int), v = .tuple #[.int .i64 r0, .int .i64 r1] ∧ Q r0 r1 ∧ Sat w0 none_ [] w' := by
  refine fn_enter Try.func16 rfl Try.ntmps16 rfl (fs := [(0, .slice lA l.length lC), (1, .agg #[.int .i64 from_.X, .int .i64 from_.Y])]) rfl (fun a hf => ?_)
  have hs := Sat.start w0 none_
  unfold M_ref8_Way at h
  refine wp_seq ?_
  refine R.list ?_
  refine S.box hf hs rfl rfl rfl [.int .i64 from_.X, .int .i64 from_.Y] rfl rfl rfl (fun g1 a w hf hs => ?_)
  refine S.val hf hs (v := .int .i64 0) rfl rfl rfl (V.pure rfl) (fun a hf => ?_)
  refine S.val hf hs (v := .int .i64 0) rfl rfl rfl (V.pure rfl) (fun a hf => ?_)
  refine R.nil ?_
  refine X.then_ ?_
  refine wp_seq ?_
  refine wp_seq ?_
  refine R.list ?_
  refine S.val hf hs (v := .slice lA l.length lC) rfl rfl rfl (V.pure rfl) (fun a hf => ?_)
  refine S.val hf hs (v := .agg #[.int .i64 from_.X, .int .i64 from_.Y]) rfl rfl rfl (V.loadBox 0 rfl rfl rfl Try.isAgg24 Try.sizeOf24 rfl rfl) (fun a hf => ?_)
  refine S.call hf rfl rfl rfl (call_fn (vs := [.slice lA l.length lC, .agg #[.int .i64 from_.X, .int .i64 from_.Y], .int .i64 2000]) rfl rfl rfl Try.call50) (R_ref8_askPoints l from_ 2000 _ lA lC ((Ag.args _ _ _).view hv_l hs) _ h) (fun v a w' hf hr => ?_)
  obtain ⟨y1, rfl, h2, hs2⟩ := hr
  replace h := h2; replace hs := hs.call hs2; clear h2 hs2
  refine S.val hf hs (v := .int .i64 y1) rfl rfl rfl (V.pure rfl) (fun a hf => ?_)
  refine R.nil ?_
  refine X.then_ ?_
  refine wp_seq ?_
  refine R.list ?_
  refine S.val hf hs (v := .int .i64 y1) rfl rfl rfl (V.pure rfl) (fun a hf => ?_)
  refine S.val hf hs (v := .bool (y1 != 0)) rfl rfl rfl (V.pure rfl) (fun a hf => ?_)
  refine R.nil ?_
  refine X.then_ ?_
  refine C.cond hf (b := y1 != 0) rfl (fun hc => ?_) (fun hc => ?_)
  · replace h := h.1 hc
    refine wp_seq ?_
    refine R.list ?_
    refine S.val hf hs (v := .int .i64 y1) rfl rfl rfl (V.pure rfl) (fun a hf => ?_)
    refine S.val hf hs (v := .int .i64 0) rfl rfl rfl (V.pure rfl) (fun a hf => ?_)
    refine S.val hf hs (v := .int .i64 y1) rfl rfl rfl (V.pure rfl) (fun a hf => ?_)
    refine R.nil ?_
    refine X.then_ ?_
    refine wp_ret ?_
    refine X.then_ret ?_
    exact L.ret hf (run_results2 Try.results16 (ResIs.tmp hf rfl) (ResIs.tmp hf rfl)) ⟨0, y1, rfl, h, hs.nil⟩
  · replace h := h.2 hc
    refine wp_skip ?_
    refine X.then_ ?_
    refine wp_seq ?_
    refine R.list ?_
    refine S.val hf hs (v := .int .i64 0) rfl rfl rfl (V.pure rfl) (fun a hf => ?_)
    refine R.nil ?_
    refine X.then_ ?_
    refine wp_seq ?_
    refine wp_seq ?_
    refine R.list ?_
    refine S.val hf hs (v := .slice lA l.length lC) rfl rfl rfl (V.pure rfl) (fun a hf => ?_)
    refine S.val hf hs (v := .int .i64 (l.length : Int)) rfl rfl rfl (V.len rfl rfl Try.runUnderlying22) (fun a hf => ?_)
    refine S.val hf hs (v := .int .i64 0) rfl rfl rfl (V.pure rfl) (fun a hf => ?_)
    refine R.nil ?_
    refine X.then_ ?_
    refine wp_block ?_
    have hlenk1 := hv_l.len64
    refine C.range (fun (ll : List Point) a w => ∃ (k1 : Nat) (b2 : Point) (n2 : Int), l.drop k1 = ll ∧ k1 + ll.length = l.length ∧ forIn' (fun k x (s : Point × Int) next => M_ref8_Way_L1 k x s.1 s.2 (fun b2 n2 => next (b2, n2))) (fun (s : Point × Int) => (fun (b2 : Point) (n2 : Int) => Q n2 0) s.1 s.2) ll k1 (b2, n2) ∧ FrOk 30 [(18, .int .i64 (k1 : Int)), (3, .pointer (some ⟨g1, 0, none⟩)), (7, .int .i64 n2), (16, .slice lA l.length lC), (17, .int .i64 (l.length : Int))] a ∧ Sat w0 none_ [hbox g1 24 [.int .i64 b2.X, .int .i64 b2.Y]] w) l ⟨0, from_, 0, rfl, Nat.zero_add _, h, (((((hf.nil.cons (hf.get 17 _ rfl)).cons (hf.get 16 _ rfl)).cons (hf.get 7 _ rfl)).cons (hf.get 3 _ rfl)).cons (hf.get 18 _ rfl)), hs⟩ ?_
    clear h hf hs
    rintro llk1 a w ⟨k1, b2, n2, hlk1, hkk1, h, hf, hs⟩
    cases llk1 with
    | nil =>
      have hc := range_done hkk1
      replace h : (fun (b2 : Point) (n2 : Int) => Q n2 0) b2 n2 := h
      refine wp_seq ?_
      refine R.list ?_
      refine S.val hf hs (v := .bool false) rfl rfl rfl (V.cmp false rfl rfl rfl rfl hc) (fun a hf => ?_)
      refine R.nil ?_
      refine X.then_ ?_
      refine wp_seq ?_
      refine C.no hf rfl ?_
      refine wp_exit ?_
      refine X.then_exit ?_
      refine X.then_exit ?_
      refine X.blk_exit ?_
      refine X.then_ ?_
      refine wp_seq ?_
      refine R.list ?_
      refine S.val hf hs (v := .int .i64 n2) rfl rfl rfl (V.pure rfl) (fun a hf => ?_)
      refine S.val hf hs (v := .int .i64 n2) rfl rfl rfl (V.pure rfl) (fun a hf => ?_)
      refine S.val hf hs (v := .int .i64 0) rfl rfl rfl (V.pure rfl) (fun a hf => ?_)
      refine R.nil ?_
      refine X.then_ ?_
      refine wp_ret ?_
      exact L.ret hf (run_results2 Try.results16 (ResIs.tmp hf rfl) (ResIs.tmp hf rfl)) ⟨n2, 0, rfl, h, hs.nil⟩
    | cons xk1 llk1 =>
      have hltk1 := range_lt hkk1; have hc := range_go hkk1; have hxk1 := range_get hlk1
      obtain ⟨next1, hnext1⟩ : ∃ X : Point → Int → Prop, X = (fun b2 n2 => forIn' (fun k x (s : Point × Int) next => M_ref8_Way_L1 k x s.1 s.2 (fun b2 n2 => next (b2, n2))) (fun (s : Point × Int) => (fun (b2 : Point) (n2 : Int) => Q n2 0) s.1 s.2) llk1 (k1 + 1) (b2, n2)) := ⟨_, rfl⟩
      replace h : M_ref8_Way_L1 k1 xk1 b2 n2 next1 := by rw [hnext1]; exact h
      unfold M_ref8_Way_L1 at h
      refine wp_seq ?_
      refine R.list ?_
      refine S.val hf hs (v := .bool true) rfl rfl rfl (V.cmp true rfl rfl rfl rfl hc) (fun a hf => ?_)
      refine R.nil ?_
      refine X.then_ ?_
      refine wp_seq ?_
      refine C.yes hf rfl ?_
      refine wp_skip ?_
      refine X.then_ ?_
      refine wp_seq ?_
      refine wp_block ?_
      refine wp_seq ?_
      refine R.list ?_
      refine S.val hf hs (v := elemPtr lA (k1 * 2)) rfl rfl rfl (V.index rfl rfl rfl Try.runUnderlying22 Try.sizeOf24 (hv_l.some_ (lt_of_get hxk1)) (Int.natCast_nonneg _) (lt_of_get hxk1) rfl) (fun a hf => ?_)
      refine S.val hf hs (v := .agg #[.int .i64 xk1.X, .int .i64 xk1.Y]) rfl rfl rfl (V.loadEl (off := 0) (Ag.args _ _ _) (hv_l.flat hxk1) rfl rfl rfl Try.isAgg24 Try.sizeOf24 rfl rfl) (fun a hf => ?_)
      refine S.alloc hf hs rfl rfl rfl [.int .i64 0, .int .i64 0] rfl Try.zeroValue24 rfl (fun g2 a w hf hs => ?_)
      refine S.storeBox 0 hf hs rfl rfl [.int .i64 xk1.X, .int .i64 xk1.Y] [.int .i64 xk1.X, .int .i64 xk1.Y] rfl rfl rfl rfl rfl Try.sizeOf24 rfl rfl rfl rfl (fun a w hf hs => ?_)
      refine R.nil ?_
      refine X.then_ ?_
      refine wp_seq ?_
      refine R.list ?_
      refine S.val hf hs (v := .int .i64 n2) rfl rfl rfl (V.pure rfl) (fun a hf => ?_)
      refine S.val hf hs (v := .agg #[.int .i64 b2.X, .int .i64 b2.Y]) rfl rfl rfl (V.loadBox 1 rfl rfl rfl Try.isAgg24 Try.sizeOf24 rfl rfl) (fun a hf => ?_)
      refine S.val hf hs (v := .agg #[.int .i64 xk1.X, .int .i64 xk1.Y]) rfl rfl rfl (V.loadBox 0 rfl rfl rfl Try.isAgg24 Try.sizeOf24 rfl rfl) (fun a hf => ?_)
      refine S.callv hf rfl rfl rfl (call_fn (vs := [.agg #[.int .i64 b2.X, .int .i64 b2.Y], .agg #[.int .i64 xk1.X, .int .i64 xk1.Y]]) rfl rfl rfl Try.call51) (C_ref8_distance b2 xk1 _ ) (fun a w hf hs' => ?_)
      replace hs := hs.call hs'; clear hs'
      refine S.val hf hs (v := .int .i64 (w64 (n2 + (rdist b2 xk1)))) rfl rfl rfl (V.pure rfl) (fun a hf => ?_)
      refine S.val hf hs (v := .int .i64 (w64 (n2 + (rdist b2 xk1)))) rfl rfl rfl (V.pure rfl) (fun a hf => ?_)
      refine R.nil ?_
      refine X.then_ ?_
      refine R.list ?_
      refine S.val hf hs (v := .agg #[.int .i64 xk1.X, .int .i64 xk1.Y]) rfl rfl rfl (V.loadBox 0 rfl rfl rfl Try.isAgg24 Try.sizeOf24 rfl rfl) (fun a hf => ?_)
      refine S.storeBox 1 hf hs rfl rfl [.int .i64 xk1.X, .int .i64 xk1.Y] [.int .i64 xk1.X, .int .i64 xk1.Y] rfl rfl rfl rfl rfl Try.sizeOf24 rfl rfl rfl rfl (fun a w hf hs => ?_)
      refine R.nil ?_
      refine X.blk ?_
      refine X.then_ ?_
      refine R.list ?_
      refine S.val hf hs (v := .int .i64 ((k1 + 1 : Nat) : Int)) rfl rfl rfl (V.incr rfl rfl rfl hltk1 hlenk1) (fun a hf => ?_)
      refine S.val hf hs (v := .int .i64 ((k1 + 1 : Nat) : Int)) rfl rfl rfl (V.pure rfl) (fun a hf => ?_)
      refine R.nil ?_
      refine X.then_ ?_
      exact ⟨xk1, llk1, rfl, k1 + 1, xk1, (w64 (n2 + (rdist b2 xk1))), range_drop hlk1, range_len hkk1, (by rw [hnext1] at h; exact h), (((((hf.nil.cons (hf.get 17 _ rfl)).cons (hf.get 16 _ rfl)).cons (hf.get 7 _ rfl)).cons (hf.get 3 _ rfl)).cons (hf.get 18 _ rfl)), hs.drop⟩

set_option linter.unusedVariables false
def M_drill_greedy_k3 (k2 : Nat) (n2 : Int) (next2 : Int → Prop) (c1 : Bool) : Prop :=
  cnd c1 (next2 (k2 : Int)) (next2 n2)
def M_drill_greedy_L2 (l : (List Point)) (l4 : List Bool) (b2 : Point) (k2 : Nat) (xk2 : Point) (n2 : Int) (next2 : Int → Prop) : Prop :=
  idx l4 (k2 : Int) fun x3 => cnd (!x3) (cnd (decide (n2 < 0)) (M_drill_greedy_k3 k2 n2 next2 true) (idx l n2 fun x4 => M_drill_greedy_k3 k2 n2 next2 (decide ((far b2 xk2) < (far b2 x4))))) (M_drill_greedy_k3 k2 n2 next2 false)
def M_drill_greedy_L1 (l : (List Point)) (k1 : Nat) (xk1 : Point) (l3 : List Int) (l4 : List Bool) (b2 : Point) (next1 : List Int → List Bool → Point → Prop) : Prop :=
  forIn' (fun k x (s : Int) next => M_drill_greedy_L2 l l4 b2 k x s (fun n2 => next n2)) (fun (s : Int) => (fun (n2 : Int) => idx l4 n2 fun x1 => idx l n2 fun x2 => must (room (l3 ++ [n2]).length 8) (next1 (l3 ++ [n2]) (l4.set n2.toNat true) x2)) s) l 0 (-1)
def M_drill_greedy (l : (List Point)) (from_ : Point) (Q : (List Int) → Prop) : Prop :=
  must (0 ≤ (l.length : Int) ∧ (l.length : Int) * 1 ≤ 281474976710656) (forIn' (fun k x (s : List Int × List Bool × Point) next => M_drill_greedy_L1 l k x s.1 s.2.1 s.2.2 (fun l3 l4 b2 => next (l3, l4, b2))) (fun (s : List Int × List Bool × Point) => (fun (l3 : List Int) (l4 : List Bool) (b2 : Point) => Q l3) s.1 s.2.1 s.2.2) l 0 (([] : List Int), (List.replicate l.length false), from_))
set_option maxHeartbeats 1000000 in
theorem R_drill_greedy (l : (List Point)) (from_ : Point) (w0 : World) (lA : Option Addr) (lC : Nat) (hv_l : View w0 (old w0 none_) lA lC l) (Q : (List Int) → Prop) (h : M_drill_greedy l from_ Q) :
    Ret Try.prog 52 #[.slice lA l.length lC, .agg #[.int .i64 from_.X, .int .i64 from_.Y]] w0 fun v w' => ∃ (r0 : (List Int)) (r0A : Option Addr) (r0C : Nat), v = .slice r0A r0.length r0C ∧ Q r0 ∧ Sat w0 none_ [hown 3 r0A r0C r0] w' := by
  refine fn_enter Try.func52 rfl Try.ntmps52 rfl (fs := [(0, .slice lA l.length lC), (1, .agg #[.int .i64 from_.X, .int .i64 from_.Y])]) rfl (fun a hf => ?_)
  have hs := Sat.start w0 none_
  unfold M_drill_greedy at h
  refine wp_seq ?_
  refine R.list ?_
  refine S.box hf hs rfl rfl rfl [.int .i64 from_.X, .int .i64 from_.Y] rfl rfl rfl (fun g1 a w hf hs => ?_)
  refine S.val hf hs (v := .slice none 0 0) rfl rfl rfl (V.pure rfl) (fun a hf => ?_)
  refine R.nil ?_
  refine X.then_ ?_
  refine wp_seq ?_
  refine R.list ?_
  refine S.val hf hs (v := .slice none 0 0) rfl rfl rfl (V.pure rfl) (fun a hf => ?_)
  refine R.nil ?_
  refine X.then_ ?_
  refine wp_seq ?_
  refine R.list ?_
  refine S.val hf hs (v := .slice lA l.length lC) rfl rfl rfl (V.pure rfl) (fun a hf => ?_)
  refine S.val hf hs (v := .int .i64 (l.length : Int)) rfl rfl rfl (V.len rfl rfl Try.runUnderlying22) (fun a hf => ?_)
  obtain ⟨hmk, h⟩ := h
  refine S.make hf hs rfl rfl rfl (α := Bool) false (z := (l.length : Int)) (N := l.length) rfl rfl rfl Try.underlying90 info4 hmk rfl (by have := hmk.2; omega) (fun A1 a w hf hs => ?_)
  refine S.val hf hs (v := .slice A1 (List.replicate l.length false).length l.length) rfl rfl rfl (V.pure rfl) (fun a hf => ?_)
  refine R.nil ?_
  refine X.then_ ?_
  refine wp_seq ?_
  refine wp_seq ?_
  refine R.list ?_
  refine S.val hf hs (v := .slice lA l.length lC) rfl rfl rfl (V.pure rfl) (fun a hf => ?_)
  refine S.val hf hs (v := .int .i64 (l.length : Int)) rfl rfl rfl (V.len rfl rfl Try.runUnderlying22) (fun a hf => ?_)
  refine S.val hf hs (v := .int .i64 0) rfl rfl rfl (V.pure rfl) (fun a hf => ?_)
  refine R.nil ?_
  refine X.then_ ?_
  refine wp_block ?_
  replace hs := hs.nilOwn (α := Int) 3
  have hlenk1 := hv_l.len64
  refine C.range (fun (ll : List Point) a w => ∃ (k1 : Nat) (l3 : List Int) (l3A : Option Addr) (l3C : Nat) (l4 : List Bool) (l4A : Option Addr) (l4C : Nat) (b2 : Point), l.drop k1 = ll ∧ k1 + ll.length = l.length ∧ forIn' (fun k x (s : List Int × List Bool × Point) next => M_drill_greedy_L1 l k x s.1 s.2.1 s.2.2 (fun l3 l4 b2 => next (l3, l4, b2))) (fun (s : List Int × List Bool × Point) => (fun (l3 : List Int) (l4 : List Bool) (b2 : Point) => Q l3) s.1 s.2.1 s.2.2) ll k1 (l3, l4, b2) ∧ FrOk 60 [(15, .int .i64 (k1 : Int)), (0, .slice lA l.length lC), (3, .pointer (some ⟨g1, 0, none⟩)), (5, .slice l3A l3.length l3C), (6, .slice l4A l4.length l4C), (14, .int .i64 (l.length : Int))] a ∧ Sat w0 none_ [hown 3 l3A l3C l3, hown 4 l4A l4C l4, hbox g1 24 [.int .i64 b2.X, .int .i64 b2.Y]] w) l ⟨0, ([] : List Int), none, 0, (List.replicate l.length false), A1, l.length, from_, rfl, Nat.zero_add _, h, ((((((hf.nil.cons (hf.get 14 _ rfl)).cons (hf.get 6 _ rfl)).cons (hf.get 5 _ rfl)).cons (hf.get 3 _ rfl)).cons (hf.get 0 _ rfl)).cons (hf.get 15 _ rfl)), hs⟩ ?_
  clear h hf hs
  rintro llk1 a w ⟨k1, l3, l3A, l3C, l4, l4A, l4C, b2, hlk1, hkk1, h, hf, hs⟩
  cases llk1 with
  | nil =>
    have hc := range_done hkk1
    replace h : (fun (l3 : List Int) (l4 : List Bool) (b2 : Point) => Q l3) l3 l4 b2 := h
    refine wp_seq ?_
    refine R.list ?_
    refine S.val hf hs (v := .bool false) rfl rfl rfl (V.cmp false rfl rfl rfl rfl hc) (fun a hf => ?_)
    refine R.nil ?_
    refine X.then_ ?_
    refine wp_seq ?_
    refine C.no hf rfl ?_
    refine wp_exit ?_
    refine X.then_exit ?_
    refine X.then_exit ?_
    refine X.blk_exit ?_
    refine X.then_ ?_
    refine wp_seq ?_
    refine R.list ?_
    refine S.val hf hs (v := .slice l3A l3.length l3C) rfl rfl rfl (V.pure rfl) (fun a hf => ?_)
    refine S.val hf hs (v := .slice l3A l3.length l3C) rfl rfl rfl (V.pure rfl) (fun a hf => ?_)
    refine R.nil ?_
    refine X.then_ ?_
    refine wp_ret ?_
    replace hs := hs.take 1
    exact L.ret hf (run_results1 Try.results52 (ResIs.tmp hf rfl)) ⟨l3, l3A, l3C, rfl, h, hs⟩
  | cons xk1 llk1 =>
    have hltk1 := range_lt hkk1; have hc := range_go hkk1; have hxk1 := range_get hlk1
    obtain ⟨next1, hnext1⟩ : ∃ X : List Int → List Bool → Point → Prop, X = (fun l3 l4 b2 => forIn' (fun k x (s : List Int × List Bool × Point) next => M_drill_greedy_L1 l k x s.1 s.2.1 s.2.2 (fun l3 l4 b2 => next (l3, l4, b2))) (fun (s : List Int × List Bool × Point) => (fun (l3 : List Int) (l4 : List Bool) (b2 : Point) => Q l3) s.1 s.2.1 s.2.2) llk1 (k1 + 1) (l3, l4, b2)) := ⟨_, rfl⟩
    replace h : M_drill_greedy_L1 l k1 xk1 l3 l4 b2 next1 := by rw [hnext1]; exact h
    unfold M_drill_greedy_L1 at h
    refine wp_seq ?_
    refine R.list ?_
    refine S.val hf hs (v := .bool true) rfl rfl rfl (V.cmp true rfl rfl rfl rfl hc) (fun a hf => ?_)
    refine R.nil ?_
    refine X.then_ ?_
    refine wp_seq ?_
    refine C.yes hf rfl ?_
    refine wp_skip ?_
    refine X.then_ ?_
    refine wp_seq ?_
    refine wp_block ?_
    refine wp_seq ?_
    refine R.list ?_
    refine S.val hf hs (v := .int .i64 (-1)) rfl rfl rfl (V.pure rfl) (fun a hf => ?_)
    refine R.nil ?_
    refine X.then_ ?_
    refine wp_seq ?_
    refine wp_seq ?_
    refine R.list ?_
    refine S.val hf hs (v := .slice lA l.length lC) rfl rfl rfl (V.pure rfl) (fun a hf => ?_)
    refine S.val hf hs (v := .int .i64 (l.length : Int)) rfl rfl rfl (V.len rfl rfl Try.runUnderlying22) (fun a hf => ?_)
    refine S.val hf hs (v := .int .i64 0) rfl rfl rfl (V.pure rfl) (fun a hf => ?_)
    refine R.nil ?_
    refine X.then_ ?_
    refine wp_block ?_
    have hlenk2 := hv_l.len64
    refine C.range (fun (ll : List Point) a w => ∃ (k2 : Nat) (n2 : Int), l.drop k2 = ll ∧ k2 + ll.length = l.length ∧ forIn' (fun k x (s : Int) next => M_drill_greedy_L2 l l4 b2 k x s (fun n2 => next n2)) (fun (s : Int) => (fun (n2 : Int) => idx l4 n2 fun x1 => idx l n2 fun x2 => must (room (l3 ++ [n2]).length 8) (next1 (l3 ++ [n2]) (l4.set n2.toNat true) x2)) s) ll k2 n2 ∧ FrOk 60 [(19, .int .i64 (k2 : Int)), (0, .slice lA l.length lC), (3, .pointer (some ⟨g1, 0, none⟩)), (5, .slice l3A l3.length l3C), (6, .slice l4A l4.length l4C), (7, .int .i64 n2), (14, .int .i64 (l.length : Int)), (15, .int .i64 (k1 : Int)), (17, .slice lA l.length lC), (18, .int .i64 (l.length : Int))] a ∧ Sat w0 none_ [hown 3 l3A l3C l3, hown 4 l4A l4C l4, hbox g1 24 [.int .i64 b2.X, .int .i64 b2.Y]] w) l ⟨0, (-1), rfl, Nat.zero_add _, h, ((((((((((hf.nil.cons (hf.get 18 _ rfl)).cons (hf.get 17 _ rfl)).cons (hf.get 15 _ rfl)).cons (hf.get 14 _ rfl)).cons (hf.get 7 _ rfl)).cons (hf.get 6 _ rfl)).cons (hf.get 5 _ rfl)).cons (hf.get 3 _ rfl)).cons (hf.get 0 _ rfl)).cons (hf.get 19 _ rfl)), hs⟩ ?_
    clear h hf hs
    rintro llk2 a w ⟨k2, n2, hlk2, hkk2, h, hf, hs⟩
    cases llk2 with
    | nil =>
      have hc := range_done hkk2
      replace h : (fun (n2 : Int) => idx l4 n2 fun x1 => idx l n2 fun x2 => must (room (l3 ++ [n2]).length 8) (next1 (l3 ++ [n2]) (l4.set n2.toNat true) x2)) n2 := h
      refine wp_seq ?_
      refine R.list ?_
      refine S.val hf hs (v := .bool false) rfl rfl rfl (V.cmp false rfl rfl rfl rfl hc) (fun a hf => ?_)
      refine R.nil ?_
      refine X.then_ ?_
      refine wp_seq ?_
      refine C.no hf rfl ?_
      refine wp_exit ?_
      refine X.then_exit ?_
      refine X.then_exit ?_
      refine X.blk_exit ?_
      refine X.then_ ?_
      refine wp_seq ?_
      refine R.list ?_
      refine S.val hf hs (v := .slice l4A l4.length l4C) rfl rfl rfl (V.pure rfl) (fun a hf => ?_)
      refine S.val hf hs (v := .int .i64 n2) rfl rfl rfl (V.pure rfl) (fun a hf => ?_)
      obtain ⟨h0x1, x1, hx1, h⟩ := h
      refine S.val hf hs (v := elemPtr l4A (n2.toNat * 1)) rfl rfl rfl (V.index rfl rfl rfl Try.runUnderlying90 Try.sizeOf4 (hs.ownSome 1 rfl (lt_of_get hx1)) h0x1 (lt_of_get hx1) rfl) (fun a hf => ?_)
      refine S.storeOwn (off := 0) 1 hf hs rfl rfl true [.bool true] rfl hx1 rfl rfl rfl rfl rfl Try.sizeOf4 rfl (by decide) rfl rfl (fun a w hf hs => ?_)
      replace hf := hf.tell 6 (v := .slice l4A (l4.set n2.toNat true).length l4C) ((hf.get 6 (.slice l4A l4.length l4C) rfl).trans (congrArg (fun n => Value.slice l4A n l4C) List.length_set.symm))
      replace hf := hf.tell 47 (v := .slice l4A (l4.set n2.toNat true).length l4C) ((hf.get 47 (.slice l4A l4.length l4C) rfl).trans (congrArg (fun n => Value.slice l4A n l4C) List.length_set.symm))
      refine R.nil ?_
      refine X.then_ ?_
      refine H.start (S := Sat w0 none_ [hown 4 l4A l4C (l4.set n2.toNat true)]) mo ?_
      replace hs := hs.drew
      refine H.val hf (hs.mask [false, true, false]) (v := .slice l3A l3.length l3C) (i := 0) rfl rfl rfl rfl (by kernel_rfl) (by kernel_rfl) (by kernel_rfl) (V.pure rfl) (fun a hf => ?_)
      refine H.val hf (hs.mask [false, true, false]) (v := .int .i64 n2) (i := 1) rfl rfl rfl rfl (by kernel_rfl) (by kernel_rfl) (by kernel_rfl) (V.pure rfl) (fun a hf => ?_)
      refine H.val hf (hs.mask [false, true, false]) (v := .slice lA l.length lC) (i := 4) rfl rfl rfl rfl (by kernel_rfl) (by kernel_rfl) (by kernel_rfl) (V.pure rfl) (fun a hf => ?_)
      refine H.val hf (hs.mask [false, true, false]) (v := .int .i64 n2) (i := 5) rfl rfl rfl rfl (by kernel_rfl) (by kernel_rfl) (by kernel_rfl) (V.pure rfl) (fun a hf => ?_)
      obtain ⟨h0x2, x2, hx2, h⟩ := h
      refine H.val hf (hs.mask [false, true, false]) (v := elemPtr lA (n2.toNat * 2)) (i := 6) rfl rfl rfl rfl (by kernel_rfl) (by kernel_rfl) (by kernel_rfl) (V.index rfl rfl rfl Try.runUnderlying22 Try.sizeOf24 (hv_l.some_ (lt_of_get hx2)) h0x2 (lt_of_get hx2) rfl) (fun a hf => ?_)
      refine H.val hf (hs.mask [false, true, false]) (v := .agg #[.int .i64 x2.X, .int .i64 x2.Y]) (i := 7) rfl rfl rfl rfl (by kernel_rfl) (by kernel_rfl) (by kernel_rfl) (V.loadEl (off := 0) (Ag.args _ _ _) (hv_l.flat hx2) rfl rfl rfl Try.isAgg24 Try.sizeOf24 rfl rfl) (fun a hf => ?_)
      refine H.one (i := 2) rfl (by kernel_rfl) ?_
      refine S.build1 hf hs rfl rfl rfl (α := Int) n2 rfl rfl rfl Try.runUnderlying28 Try.sizeOf3 Try.zeroValue3 rfl (by decide) (fun A2 a w hf hs => ?_)
      refine R.nil ?_
      refine X.then_ ?_
      refine ⟨(hs.mask [false, false, true, false]), ?_⟩
      refine H.one (i := 3) rfl (by kernel_rfl) ?_
      obtain ⟨hroom, h⟩ := h
      refine S.appendCells 1 hf hs rfl rfl rfl rfl rfl rfl rfl Try.underlying28 info3 rfl hroom ((hs.ownView 0 rfl).some_ (i := 0) (by simp)) (hs.ownView 0 rfl) (fun A3 C1 a w hf hs => ?_)
      replace hs := hs.drop
      refine R.nil ?_
      refine X.then_ ?_
      refine ⟨(hs.mask [false, true, false]), ?_⟩
      refine H.val hf (hs.mask [false, true, false]) (v := .slice A3 (l3 ++ [n2]).length C1) (i := 8) rfl rfl rfl rfl (by kernel_rfl) (by kernel_rfl) (by kernel_rfl) (V.pure rfl) (fun a hf => ?_)
      refine H.one (i := 9) rfl (by kernel_rfl) ?_
      refine S.storeBox 2 hf hs rfl rfl [.int .i64 x2.X, .int .i64 x2.Y] [.int .i64 x2.X, .int .i64 x2.Y] rfl rfl rfl rfl rfl Try.sizeOf24 rfl rfl rfl rfl (fun a w hf hs => ?_)
      refine R.nil ?_
      refine X.then_ ?_
      refine ⟨(hs.mask [false, true, false]), ?_⟩
      refine H.done (by kernel_rfl) ?_
      refine X.blk ?_
      refine X.then_ ?_
      refine R.list ?_
      refine S.val hf hs (v := .int .i64 ((k1 + 1 : Nat) : Int)) rfl rfl rfl (V.incr rfl rfl rfl hltk1 hlenk1) (fun a hf => ?_)
      refine S.val hf hs (v := .int .i64 ((k1 + 1 : Nat) : Int)) rfl rfl rfl (V.pure rfl) (fun a hf => ?_)
      refine R.nil ?_
      refine X.then_ ?_
      exact ⟨xk1, llk1, rfl, k1 + 1, (l3 ++ [n2]), A3, C1, (l4.set n2.toNat true), l4A, l4C, x2, range_drop hlk1, range_len hkk1, (by rw [hnext1] at h; exact h), ((((((hf.nil.cons (hf.get 14 _ rfl)).cons (hf.get 6 _ rfl)).cons (hf.get 5 _ rfl)).cons (hf.get 3 _ rfl)).cons (hf.get 0 _ rfl)).cons (hf.get 15 _ rfl)), hs⟩
    | cons xk2 llk2 =>
      have hltk2 := range_lt hkk2; have hc := range_go hkk2; have hxk2 := range_get hlk2
      obtain ⟨next2, hnext2⟩ : ∃ X : Int → Prop, X = (fun n2 => forIn' (fun k x (s : Int) next => M_drill_greedy_L2 l l4 b2 k x s (fun n2 => next n2)) (fun (s : Int) => (fun (n2 : Int) => idx l4 n2 fun x1 => idx l n2 fun x2 => must (room (l3 ++ [n2]).length 8) (next1 (l3 ++ [n2]) (l4.set n2.toNat true) x2)) s) llk2 (k2 + 1) n2) := ⟨_, rfl⟩
      replace h : M_drill_greedy_L2 l l4 b2 k2 xk2 n2 next2 := by rw [hnext2]; exact h
      unfold M_drill_greedy_L2 at h
      refine wp_seq ?_
      refine R.list ?_
      refine S.val hf hs (v := .bool true) rfl rfl rfl (V.cmp true rfl rfl rfl rfl hc) (fun a hf => ?_)
      refine R.nil ?_
      refine X.then_ ?_
      refine wp_seq ?_
      refine C.yes hf rfl ?_
      refine wp_skip ?_
      refine X.then_ ?_
      refine wp_seq ?_
      refine wp_block ?_
      refine wp_seq ?_
      refine R.list ?_
      refine S.val hf hs (v := .int .i64 (k2 : Int)) rfl rfl rfl (V.pure rfl) (fun a hf => ?_)
      refine S.val hf hs (v := elemPtr lA (k2 * 2)) rfl rfl rfl (V.index rfl rfl rfl Try.runUnderlying22 Try.sizeOf24 (hv_l.some_ (lt_of_get hxk2)) (Int.natCast_nonneg _) (lt_of_get hxk2) rfl) (fun a hf => ?_)
      refine S.val hf hs (v := .agg #[.int .i64 xk2.X, .int .i64 xk2.Y]) rfl rfl rfl (V.loadEl (off := 0) (Ag.args _ _ _) (hv_l.flat hxk2) rfl rfl rfl Try.isAgg24 Try.sizeOf24 rfl rfl) (fun a hf => ?_)
      refine S.alloc hf hs rfl rfl rfl [.int .i64 0, .int .i64 0] rfl Try.zeroValue24 rfl (fun g2 a w hf hs => ?_)
      refine S.val hf hs (v := .int .i64 (k2 : Int)) rfl rfl rfl (V.pure rfl) (fun a hf => ?_)
      refine S.storeBox 0 hf hs rfl rfl [.int .i64 xk2.X, .int .i64 xk2.Y] [.int .i64 xk2.X, .int .i64 xk2.Y] rfl rfl rfl rfl rfl Try.sizeOf24 rfl rfl rfl rfl (fun a w hf hs => ?_)
      refine R.nil ?_
      refine X.then_ ?_
      refine wp_seq ?_
      refine C.cut (J := fun a w => ∃ (c1 : Bool), M_drill_greedy_k3 k2 n2 next2 c1 ∧ FrOk 60 [(0, .slice lA l.length lC), (3, .pointer (some ⟨g1, 0, none⟩)), (5, .slice l3A l3.length l3C), (6, .slice l4A l4.length l4C), (7, .int .i64 n2), (8, .int .i64 (k2 : Int)), (14, .int .i64 (l.length : Int)), (15, .int .i64 (k1 : Int)), (17, .slice lA l.length lC), (18, .int .i64 (l.length : Int)), (19, .int .i64 (k2 : Int)), (44, .bool c1)] a ∧ Sat w0 none_ [hbox g2 24 [.int .i64 xk2.X, .int .i64 xk2.Y], hown 3 l3A l3C l3, hown 4 l4A l4C l4, hbox g1 24 [.int .i64 b2.X, .int .i64 b2.Y]] w) ?_ ?_
      · rintro a w ⟨c1, h, hf, hs⟩
        unfold M_drill_greedy_k3 at h
        refine C.cond hf (b := c1) rfl (fun hc => ?_) (fun hc => ?_)
        · replace h := h.1 hc
          refine R.list ?_
          refine S.val hf hs (v := .int .i64 (k2 : Int)) rfl rfl rfl (V.pure rfl) (fun a hf => ?_)
          refine S.val hf hs (v := .int .i64 (k2 : Int)) rfl rfl rfl (V.pure rfl) (fun a hf => ?_)
          refine R.nil ?_
          refine X.blk ?_
          refine X.then_ ?_
          refine R.list ?_
          refine S.val hf hs (v := .int .i64 ((k2 + 1 : Nat) : Int)) rfl rfl rfl (V.incr rfl rfl rfl hltk2 hlenk2) (fun a hf => ?_)
          refine S.val hf hs (v := .int .i64 ((k2 + 1 : Nat) : Int)) rfl rfl rfl (V.pure rfl) (fun a hf => ?_)
          refine R.nil ?_
          refine X.then_ ?_
          exact ⟨xk2, llk2, rfl, k2 + 1, (k2 : Int), range_drop hlk2, range_len hkk2, (by rw [hnext2] at h; exact h), ((((((((((hf.nil.cons (hf.get 18 _ rfl)).cons (hf.get 17 _ rfl)).cons (hf.get 15 _ rfl)).cons (hf.get 14 _ rfl)).cons (hf.get 7 _ rfl)).cons (hf.get 6 _ rfl)).cons (hf.get 5 _ rfl)).cons (hf.get 3 _ rfl)).cons (hf.get 0 _ rfl)).cons (hf.get 19 _ rfl)), hs.drop⟩
        · replace h := h.2 hc
          refine wp_skip ?_
          refine X.blk ?_
          refine X.then_ ?_
          refine R.list ?_
          refine S.val hf hs (v := .int .i64 ((k2 + 1 : Nat) : Int)) rfl rfl rfl (V.incr rfl rfl rfl hltk2 hlenk2) (fun a hf => ?_)
          refine S.val hf hs (v := .int .i64 ((k2 + 1 : Nat) : Int)) rfl rfl rfl (V.pure rfl) (fun a hf => ?_)
          refine R.nil ?_
          refine X.then_ ?_
          exact ⟨xk2, llk2, rfl, k2 + 1, n2, range_drop hlk2, range_len hkk2, (by rw [hnext2] at h; exact h), ((((((((((hf.nil.cons (hf.get 18 _ rfl)).cons (hf.get 17 _ rfl)).cons (hf.get 15 _ rfl)).cons (hf.get 14 _ rfl)).cons (hf.get 7 _ rfl)).cons (hf.get 6 _ rfl)).cons (hf.get 5 _ rfl)).cons (hf.get 3 _ rfl)).cons (hf.get 0 _ rfl)).cons (hf.get 19 _ rfl)), hs.drop⟩
      · skip
        refine R.draw mo (by kernel_rfl) hs ?_
        refine D.val hf (v := .slice l4A l4.length l4C) rfl rfl rfl (V.pure rfl) (fun a hf => ?_)
        refine D.val hf (v := .int .i64 (k2 : Int)) rfl rfl rfl (V.pure rfl) (fun a hf => ?_)
        obtain ⟨h0x3, x3, hx3, h⟩ := h
        refine D.val hf (v := elemPtr l4A (k2 * 1)) rfl rfl rfl (V.index rfl rfl rfl Try.runUnderlying90 Try.sizeOf4 (hs.ownSome 2 rfl (lt_of_get hx3)) (Int.natCast_nonneg _) (lt_of_get hx3) rfl) (fun a hf => ?_)
        refine D.val hf (v := .bool x3) rfl rfl rfl (V.loadOwn (off := 0) 2 rfl hx3 rfl rfl rfl Try.isAgg4 Try.sizeOf4 rfl rfl) (fun a hf => ?_)
        refine D.val hf (v := .bool (!x3)) rfl rfl rfl (V.pure rfl) (fun a hf => ?_)
        refine D.split hf (b := !x3) rfl rfl rfl (V.pure rfl) (fun hc a hf => ?_) (fun hc a hf => ?_)
        · replace h := h.1 hc
          refine D.val hf (v := .int .i64 n2) rfl rfl rfl (V.pure rfl) (fun a hf => ?_)
          refine D.val hf (v := .bool (decide (n2 < 0))) rfl rfl rfl (V.pure rfl) (fun a hf => ?_)
          refine D.split hf (b := decide (n2 < 0)) rfl rfl rfl (V.pure rfl) (fun hc a hf => ?_) (fun hc a hf => ?_)
          · replace h := h.1 hc
            refine D.skip hf rfl rfl rfl (fun a hf => ?_)
            refine D.skip hf rfl rfl rfl (fun a hf => ?_)
            refine D.skip hf rfl rfl rfl (fun a hf => ?_)
            refine D.skip hf rfl rfl rfl (fun a hf => ?_)
            refine D.skip hf rfl rfl rfl (fun a hf => ?_)
            refine D.skip hf rfl rfl rfl (fun a hf => ?_)
            refine D.skip hf rfl rfl rfl (fun a hf => ?_)
            refine D.skip hf rfl rfl rfl (fun a hf => ?_)
            refine D.skip hf rfl rfl rfl (fun a hf => ?_)
            refine D.skip hf rfl rfl rfl (fun a hf => ?_)
            refine D.val hf (v := .bool true) rfl rfl rfl (V.pure rfl) (fun a hf => ?_)
            refine D.val hf (v := .bool true) rfl rfl rfl (V.pure rfl) (fun a hf => ?_)
            refine D.done (fun w hs => ?_)
            refine X.then_ ?_
            exact ⟨true, h, ((((((((((((hf.nil.cons (hf.get 44 _ rfl)).cons (hf.get 19 _ rfl)).cons (hf.get 18 _ rfl)).cons (hf.get 17 _ rfl)).cons (hf.get 15 _ rfl)).cons (hf.get 14 _ rfl)).cons (hf.get 8 _ rfl)).cons (hf.get 7 _ rfl)).cons (hf.get 6 _ rfl)).cons (hf.get 5 _ rfl)).cons (hf.get 3 _ rfl)).cons (hf.get 0 _ rfl)), hs⟩
          · replace h := h.2 hc
            refine D.val hf (v := .agg #[.int .i64 b2.X, .int .i64 b2.Y]) rfl rfl rfl (V.loadBox 3 rfl rfl rfl Try.isAgg24 Try.sizeOf24 rfl rfl) (fun a hf => ?_)
            refine D.val hf (v := .agg #[.int .i64 xk2.X, .int .i64 xk2.Y]) rfl rfl rfl (V.loadBox 0 rfl rfl rfl Try.isAgg24 Try.sizeOf24 rfl rfl) (fun a hf => ?_)
            refine D.call hf (v := .int .i64 (far b2 xk2)) rfl rfl rfl (call_fn (vs := [.agg #[.int .i64 b2.X, .int .i64 b2.Y], .agg #[.int .i64 xk2.X, .int .i64 xk2.Y]]) rfl rfl rfl Try.call61) (fun w hs => Ret.quiet hs (C_drill_far b2 xk2 w )) (fun a hf => ?_)
            refine D.val hf (v := .agg #[.int .i64 b2.X, .int .i64 b2.Y]) rfl rfl rfl (V.loadBox 3 rfl rfl rfl Try.isAgg24 Try.sizeOf24 rfl rfl) (fun a hf => ?_)
            refine D.val hf (v := .slice lA l.length lC) rfl rfl rfl (V.pure rfl) (fun a hf => ?_)
            refine D.val hf (v := .int .i64 n2) rfl rfl rfl (V.pure rfl) (fun a hf => ?_)
            obtain ⟨h0x4, x4, hx4, h⟩ := h
            refine D.val hf (v := elemPtr lA (n2.toNat * 2)) rfl rfl rfl (V.index rfl rfl rfl Try.runUnderlying22 Try.sizeOf24 (hv_l.some_ (lt_of_get hx4)) h0x4 (lt_of_get hx4) rfl) (fun a hf => ?_)
            refine D.val hf (v := .agg #[.int .i64 x4.X, .int .i64 x4.Y]) rfl rfl rfl (V.loadEl (off := 0) (Ag.args _ _ _) (hv_l.flat hx4) rfl rfl rfl Try.isAgg24 Try.sizeOf24 rfl rfl) (fun a hf => ?_)
            refine D.call hf (v := .int .i64 (far b2 x4)) rfl rfl rfl (call_fn (vs := [.agg #[.int .i64 b2.X, .int .i64 b2.Y], .agg #[.int .i64 x4.X, .int .i64 x4.Y]]) rfl rfl rfl Try.call61) (fun w hs => Ret.quiet hs (C_drill_far b2 x4 w )) (fun a hf => ?_)
            refine D.val hf (v := .bool (decide ((far b2 xk2) < (far b2 x4)))) rfl rfl rfl (V.pure rfl) (fun a hf => ?_)
            refine D.val hf (v := .bool (decide ((far b2 xk2) < (far b2 x4)))) rfl rfl rfl (V.pure rfl) (fun a hf => ?_)
            refine D.val hf (v := .bool (decide ((far b2 xk2) < (far b2 x4)))) rfl rfl rfl (V.pure rfl) (fun a hf => ?_)
            refine D.done (fun w hs => ?_)
            refine X.then_ ?_
            exact ⟨(decide ((far b2 xk2) < (far b2 x4))), h, ((((((((((((hf.nil.cons (hf.get 44 _ rfl)).cons (hf.get 19 _ rfl)).cons (hf.get 18 _ rfl)).cons (hf.get 17 _ rfl)).cons (hf.get 15 _ rfl)).cons (hf.get 14 _ rfl)).cons (hf.get 8 _ rfl)).cons (hf.get 7 _ rfl)).cons (hf.get 6 _ rfl)).cons (hf.get 5 _ rfl)).cons (hf.get 3 _ rfl)).cons (hf.get 0 _ rfl)), hs⟩
        · replace h := h.2 hc
          refine D.skip hf rfl rfl rfl (fun a hf => ?_)
          refine D.skip hf rfl rfl rfl (fun a hf => ?_)
          refine D.skip hf rfl rfl rfl (fun a hf => ?_)
          refine D.skip hf rfl rfl rfl (fun a hf => ?_)
          refine D.skip hf rfl rfl rfl (fun a hf => ?_)
          refine D.skip hf rfl rfl rfl (fun a hf => ?_)
          refine D.skip hf rfl rfl rfl (fun a hf => ?_)
          refine D.skip hf rfl rfl rfl (fun a hf => ?_)
          refine D.skip hf rfl rfl rfl (fun a hf => ?_)
          refine D.skip hf rfl rfl rfl (fun a hf => ?_)
          refine D.skip hf rfl rfl rfl (fun a hf => ?_)
          refine D.skip hf rfl rfl rfl (fun a hf => ?_)
          refine D.skip hf rfl rfl rfl (fun a hf => ?_)
          refine D.skip hf rfl rfl rfl (fun a hf => ?_)
          refine D.val hf (v := .bool false) rfl rfl rfl (V.pure rfl) (fun a hf => ?_)
          refine D.done (fun w hs => ?_)
          refine X.then_ ?_
          exact ⟨false, h, ((((((((((((hf.nil.cons (hf.get 44 _ rfl)).cons (hf.get 19 _ rfl)).cons (hf.get 18 _ rfl)).cons (hf.get 17 _ rfl)).cons (hf.get 15 _ rfl)).cons (hf.get 14 _ rfl)).cons (hf.get 8 _ rfl)).cons (hf.get 7 _ rfl)).cons (hf.get 6 _ rfl)).cons (hf.get 5 _ rfl)).cons (hf.get 3 _ rfl)).cons (hf.get 0 _ rfl)), hs⟩

set_option linter.unusedVariables false
def M_drill_Greedy (l : (List Point)) (from_ : Point) (Q : (List Int) → Int → Prop) : Prop :=
  M_drill_checkPoints l from_ 200 fun y1 => cnd (y1 != 0) (Q ([] : List Int) y1) (M_drill_greedy l from_ fun y2 => Q y2 0)
set_option maxHeartbeats 1000000 in
theorem R_drill_Greedy (l : (List Point)) (from_ : Point) (w0 : World) (lA : Option Addr) (lC : Nat) (hv_l : View w0 (old w0 none_) lA lC l) (Q : (List Int) → Int → Prop) (h : M_drill_Greedy l from_ Q) :
    Ret Try.prog 17 #[.slice lA l.length lC, .agg #[.int .i64 from_.X, .int .i64 from_.Y]] w0 fun v w' => ∃ (r0 : (List Int)) (r0A : Option Addr) (r0C : Nat) (r1 : Int), v = .tuple #[.slice r0A r0.length r0C, .int .i64 r1] ∧ Q r0 r1 ∧ Sat w0 none_ [hown 3 r0A r0C r0] w' := by
  refine fn_enter Try.func17 rfl Try.ntmps17 rfl (fs := [(0, .slice lA l.length lC), (1, .agg #[.int .i64 from_.X, .int .i64 from_.Y])]) rfl (fun a hf => ?_)
  have hs := Sat.start w0 none_
  unfold M_drill_Greedy at h
  refine wp_seq ?_
  refine R.list ?_
  refine S.box hf hs rfl rfl rfl [.int .i64 from_.X, .int .i64 from_.Y] rfl rfl rfl (fun g1 a w hf hs => ?_)
  refine S.val hf hs (v := .slice none 0 0) rfl rfl rfl (V.pure rfl) (fun a hf => ?_)
  refine S.val hf hs (v := .int .i64 0) rfl rfl rfl (V.pure rfl) (fun a hf => ?_)
  refine R.nil ?_
  refine X.then_ ?_
  refine wp_seq ?_
  refine wp_seq ?_
  refine R.list ?_
  refine S.val hf hs (v := .slice lA l.length lC) rfl rfl rfl (V.pure rfl) (fun a hf => ?_)
  refine S.val hf hs (v := .agg #[.int .i64 from_.X, .int .i64 from_.Y]) rfl rfl rfl (V.loadBox 0 rfl rfl rfl Try.isAgg24 Try.sizeOf24 rfl rfl) (fun a hf => ?_)
  refine S.call hf rfl rfl rfl (call_fn (vs := [.slice lA l.length lC, .agg #[.int .i64 from_.X, .int .i64 from_.Y], .int .i64 200]) rfl rfl rfl Try.call48) (R_drill_checkPoints l from_ 200 _ lA lC ((Ag.args _ _ _).view hv_l hs) _ h) (fun v a w' hf hr => ?_)
  obtain ⟨y1, rfl, h2, hs2⟩ := hr
  replace h := h2; replace hs := hs.call hs2; clear h2 hs2
  refine S.val hf hs (v := .int .i64 y1) rfl rfl rfl (V.pure rfl) (fun a hf => ?_)
  refine R.nil ?_
  refine X.then_ ?_
  refine wp_seq ?_
  refine R.list ?_
  refine S.val hf hs (v := .int .i64 y1) rfl rfl rfl (V.pure rfl) (fun a hf => ?_)
  refine S.val hf hs (v := .bool (y1 != 0)) rfl rfl rfl (V.pure rfl) (fun a hf => ?_)
  refine R.nil ?_
  refine X.then_ ?_
  refine C.cond hf (b := y1 != 0) rfl (fun hc => ?_) (fun hc => ?_)
  · replace h := h.1 hc
    refine wp_seq ?_
    refine R.list ?_
    refine S.val hf hs (v := .int .i64 y1) rfl rfl rfl (V.pure rfl) (fun a hf => ?_)
    refine S.val hf hs (v := .slice none 0 0) rfl rfl rfl (V.pure rfl) (fun a hf => ?_)
    refine S.val hf hs (v := .int .i64 y1) rfl rfl rfl (V.pure rfl) (fun a hf => ?_)
    refine R.nil ?_
    refine X.then_ ?_
    refine wp_ret ?_
    refine X.then_ret ?_
    replace hs := hs.nilOwn (α := Int) 3
    replace hs := hs.take 1
    exact L.ret hf (run_results2 Try.results17 (ResIs.tmp hf rfl) (ResIs.tmp hf rfl)) ⟨([] : List Int), none, 0, y1, rfl, h, hs⟩
  · replace h := h.2 hc
    refine wp_skip ?_
    refine X.then_ ?_
    refine wp_seq ?_
    refine R.list ?_
    refine S.val hf hs (v := .slice lA l.length lC) rfl rfl rfl (V.pure rfl) (fun a hf => ?_)
    refine S.val hf hs (v := .agg #[.int .i64 from_.X, .int .i64 from_.Y]) rfl rfl rfl (V.loadBox 0 rfl rfl rfl Try.isAgg24 Try.sizeOf24 rfl rfl) (fun a hf => ?_)
    refine S.call hf rfl rfl rfl (call_fn (vs := [.slice lA l.length lC, .agg #[.int .i64 from_.X, .int .i64 from_.Y]]) rfl rfl rfl Try.call52) (R_drill_greedy l from_ _ lA lC ((Ag.args _ _ _).view hv_l hs) _ h) (fun v a w' hf hr => ?_)
    obtain ⟨y2, y2A, y2C, rfl, h2, hs2⟩ := hr
    replace h := h2; replace hs := hs.call hs2; clear h2 hs2
    refine S.val hf hs (v := .slice y2A y2.length y2C) rfl rfl rfl (V.pure rfl) (fun a hf => ?_)
    refine S.val hf hs (v := .int .i64 0) rfl rfl rfl (V.pure rfl) (fun a hf => ?_)
    refine R.nil ?_
    refine X.then_ ?_
    refine wp_ret ?_
    replace hs := hs.take 1
    exact L.ret hf (run_results2 Try.results17 (ResIs.tmp hf rfl) (ResIs.tmp hf rfl)) ⟨y2, y2A, y2C, 0, rfl, h, hs⟩

set_option linter.unusedVariables false
def M_ref8_greedy_k3 (k2 : Nat) (n2 : Int) (next2 : Int → Prop) (c1 : Bool) : Prop :=
  cnd c1 (next2 (k2 : Int)) (next2 n2)
def M_ref8_greedy_L2 (l : (List Point)) (l4 : List Bool) (b2 : Point) (k2 : Nat) (xk2 : Point) (n2 : Int) (next2 : Int → Prop) : Prop :=
  idx l4 (k2 : Int) fun x3 => cnd (!x3) (cnd (decide (n2 < 0)) (M_ref8_greedy_k3 k2 n2 next2 true) (idx l n2 fun x4 => M_ref8_greedy_k3 k2 n2 next2 (decide ((rdist b2 xk2) < (rdist b2 x4))))) (M_ref8_greedy_k3 k2 n2 next2 false)
def M_ref8_greedy_L1 (l : (List Point)) (k1 : Nat) (xk1 : Point) (l3 : List Int) (l4 : List Bool) (b2 : Point) (next1 : List Int → List Bool → Point → Prop) : Prop :=
  forIn' (fun k x (s : Int) next => M_ref8_greedy_L2 l l4 b2 k x s (fun n2 => next n2)) (fun (s : Int) => (fun (n2 : Int) => idx l n2 fun x1 => idx l4 n2 fun x2 => must (room (l3 ++ [n2]).length 8) (next1 (l3 ++ [n2]) (l4.set n2.toNat true) x1)) s) l 0 (-1)
def M_ref8_greedy (l : (List Point)) (from_ : Point) (Q : (List Int) → Prop) : Prop :=
  must (0 ≤ (l.length : Int) ∧ (l.length : Int) * 1 ≤ 281474976710656) (forIn' (fun k x (s : List Int × List Bool × Point) next => M_ref8_greedy_L1 l k x s.1 s.2.1 s.2.2 (fun l3 l4 b2 => next (l3, l4, b2))) (fun (s : List Int × List Bool × Point) => (fun (l3 : List Int) (l4 : List Bool) (b2 : Point) => Q l3) s.1 s.2.1 s.2.2) l 0 (([] : List Int), (List.replicate l.length false), from_))
set_option maxHeartbeats 1000000 in
theorem R_ref8_greedy (l : (List Point)) (from_ : Point) (w0 : World) (lA : Option Addr) (lC : Nat) (hv_l : View w0 (old w0 none_) lA lC l) (Q : (List Int) → Prop) (h : M_ref8_greedy l from_ Q) :
    Ret Try.prog 53 #[.slice lA l.length lC, .agg #[.int .i64 from_.X, .int .i64 from_.Y]] w0 fun v w' => ∃ (r0 : (List Int)) (r0A : Option Addr) (r0C : Nat), v = .slice r0A r0.length r0C ∧ Q r0 ∧ Sat w0 none_ [hown 3 r0A r0C r0] w' := by
  refine fn_enter Try.func53 rfl Try.ntmps53 rfl (fs := [(0, .slice lA l.length lC), (1, .agg #[.int .i64 from_.X, .int .i64 from_.Y])]) rfl (fun a hf => ?_)
  have hs := Sat.start w0 none_
  unfold M_ref8_greedy at h
  refine wp_seq ?_
  refine R.list ?_
  refine S.box hf hs rfl rfl rfl [.int .i64 from_.X, .int .i64 from_.Y] rfl rfl rfl (fun g1 a w hf hs => ?_)
  refine S.val hf hs (v := .slice none 0 0) rfl rfl rfl (V.pure rfl) (fun a hf => ?_)
  refine R.nil ?_
  refine X.then_ ?_
  refine wp_seq ?_
  refine R.list ?_
  refine S.val hf hs (v := .slice lA l.length lC) rfl rfl rfl (V.pure rfl) (fun a hf => ?_)
  refine S.val hf hs (v := .int .i64 (l.length : Int)) rfl rfl rfl (V.len rfl rfl Try.runUnderlying22) (fun a hf => ?_)
  obtain ⟨hmk, h⟩ := h
  refine S.make hf hs rfl rfl rfl (α := Bool) false (z := (l.length : Int)) (N := l.length) rfl rfl rfl Try.underlying90 info4 hmk rfl (by have := hmk.2; omega) (fun A1 a w hf hs => ?_)
  refine S.val hf hs (v := .slice A1 (List.replicate l.length false).length l.length) rfl rfl rfl (V.pure rfl) (fun a hf => ?_)
  refine R.nil ?_
  refine X.then_ ?_
  refine wp_seq ?_
  refine R.list ?_
  refine S.val hf hs (v := .slice none 0 0) rfl rfl rfl (V.pure rfl) (fun a hf => ?_)
  refine R.nil ?_
  refine X.then_ ?_
  refine wp_seq ?_
  refine wp_seq ?_
  refine R.list ?_
  refine S.val hf hs (v := .slice lA l.length lC) rfl rfl rfl (V.pure rfl) (fun a hf => ?_)
  refine S.val hf hs (v := .int .i64 (l.length : Int)) rfl rfl rfl (V.len rfl rfl Try.runUnderlying22) (fun a hf => ?_)
  refine S.val hf hs (v := .int .i64 0) rfl rfl rfl (V.pure rfl) (fun a hf => ?_)
  refine R.nil ?_
  refine X.then_ ?_
  refine wp_block ?_
  replace hs := hs.nilOwn (α := Int) 3
  have hlenk1 := hv_l.len64
  refine C.range (fun (ll : List Point) a w => ∃ (k1 : Nat) (l3 : List Int) (l3A : Option Addr) (l3C : Nat) (l4 : List Bool) (l4A : Option Addr) (l4C : Nat) (b2 : Point), l.drop k1 = ll ∧ k1 + ll.length = l.length ∧ forIn' (fun k x (s : List Int × List Bool × Point) next => M_ref8_greedy_L1 l k x s.1 s.2.1 s.2.2 (fun l3 l4 b2 => next (l3, l4, b2))) (fun (s : List Int × List Bool × Point) => (fun (l3 : List Int) (l4 : List Bool) (b2 : Point) => Q l3) s.1 s.2.1 s.2.2) ll k1 (l3, l4, b2) ∧ FrOk 60 [(15, .int .i64 (k1 : Int)), (0, .slice lA l.length lC), (3, .pointer (some ⟨g1, 0, none⟩)), (5, .slice l4A l4.length l4C), (6, .slice l3A l3.length l3C), (14, .int .i64 (l.length : Int))] a ∧ Sat w0 none_ [hown 3 l3A l3C l3, hown 4 l4A l4C l4, hbox g1 24 [.int .i64 b2.X, .int .i64 b2.Y]] w) l ⟨0, ([] : List Int), none, 0, (List.replicate l.length false), A1, l.length, from_, rfl, Nat.zero_add _, h, ((((((hf.nil.cons (hf.get 14 _ rfl)).cons (hf.get 6 _ rfl)).cons (hf.get 5 _ rfl)).cons (hf.get 3 _ rfl)).cons (hf.get 0 _ rfl)).cons (hf.get 15 _ rfl)), hs⟩ ?_
  clear h hf hs
  rintro llk1 a w ⟨k1, l3, l3A, l3C, l4, l4A, l4C, b2, hlk1, hkk1, h, hf, hs⟩
  cases llk1 with
  | nil =>
    have hc := range_done hkk1
    replace h : (fun (l3 : List Int) (l4 : List Bool) (b2 : Point) => Q l3) l3 l4 b2 := h
    refine wp_seq ?_
    refine R.list ?_
    refine S.val hf hs (v := .bool false) rfl rfl rfl (V.cmp false rfl rfl rfl rfl hc) (fun a hf => ?_)
    refine R.nil ?_
    refine X.then_ ?_
    refine wp_seq ?_
    refine C.no hf rfl ?_
    refine wp_exit ?_
    refine X.then_exit ?_
    refine X.then_exit ?_
    refine X.blk_exit ?_
    refine X.then_ ?_
    refine wp_seq ?_
    refine R.list ?_
    refine S.val hf hs (v := .slice l3A l3.length l3C) rfl rfl rfl (V.pure rfl) (fun a hf => ?_)
    refine S.val hf hs (v := .slice l3A l3.length l3C) rfl rfl rfl (V.pure rfl) (fun a hf => ?_)
    refine R.nil ?_
    refine X.then_ ?_
    refine wp_ret ?_
    replace hs := hs.take 1
    exact L.ret hf (run_results1 Try.results53 (ResIs.tmp hf rfl)) ⟨l3, l3A, l3C, rfl, h, hs⟩
  | cons xk1 llk1 =>
    have hltk1 := range_lt hkk1; have hc := range_go hkk1; have hxk1 := range_get hlk1
    obtain ⟨next1, hnext1⟩ : ∃ X : List Int → List Bool → Point → Prop, X = (fun l3 l4 b2 => forIn' (fun k x (s : List Int × List Bool × Point) next => M_ref8_greedy_L1 l k x s.1 s.2.1 s.2.2 (fun l3 l4 b2 => next (l3, l4, b2))) (fun (s : List Int × List Bool × Point) => (fun (l3 : List Int) (l4 : List Bool) (b2 : Point) => Q l3) s.1 s.2.1 s.2.2) llk1 (k1 + 1) (l3, l4, b2)) := ⟨_, rfl⟩
    replace h : M_ref8_greedy_L1 l k1 xk1 l3 l4 b2 next1 := by rw [hnext1]; exact h
    unfold M_ref8_greedy_L1 at h
    refine wp_seq ?_
    refine R.list ?_
    refine S.val hf hs (v := .bool true) rfl rfl rfl (V.cmp true rfl rfl rfl rfl hc) (fun a hf => ?_)
    refine R.nil ?_
    refine X.then_ ?_
    refine wp_seq ?_
    refine C.yes hf rfl ?_
    refine wp_skip ?_
    refine X.then_ ?_
    refine wp_seq ?_
    refine wp_block ?_
    refine wp_seq ?_
    refine R.list ?_
    refine S.val hf hs (v := .int .i64 (-1)) rfl rfl rfl (V.pure rfl) (fun a hf => ?_)
    refine R.nil ?_
    refine X.then_ ?_
    refine wp_seq ?_
    refine wp_seq ?_
    refine R.list ?_
    refine S.val hf hs (v := .slice lA l.length lC) rfl rfl rfl (V.pure rfl) (fun a hf => ?_)
    refine S.val hf hs (v := .int .i64 (l.length : Int)) rfl rfl rfl (V.len rfl rfl Try.runUnderlying22) (fun a hf => ?_)
    refine S.val hf hs (v := .int .i64 0) rfl rfl rfl (V.pure rfl) (fun a hf => ?_)
    refine R.nil ?_
    refine X.then_ ?_
    refine wp_block ?_
    have hlenk2 := hv_l.len64
    refine C.range (fun (ll : List Point) a w => ∃ (k2 : Nat) (n2 : Int), l.drop k2 = ll ∧ k2 + ll.length = l.length ∧ forIn' (fun k x (s : Int) next => M_ref8_greedy_L2 l l4 b2 k x s (fun n2 => next n2)) (fun (s : Int) => (fun (n2 : Int) => idx l n2 fun x1 => idx l4 n2 fun x2 => must (room (l3 ++ [n2]).length 8) (next1 (l3 ++ [n2]) (l4.set n2.toNat true) x1)) s) ll k2 n2 ∧ FrOk 60 [(19, .int .i64 (k2 : Int)), (0, .slice lA l.length lC), (3, .pointer (some ⟨g1, 0, none⟩)), (5, .slice l4A l4.length l4C), (6, .slice l3A l3.length l3C), (7, .int .i64 n2), (14, .int .i64 (l.length : Int)), (15, .int .i64 (k1 : Int)), (17, .slice lA l.length lC), (18, .int .i64 (l.length : Int))] a ∧ Sat w0 none_ [hown 3 l3A l3C l3, hown 4 l4A l4C l4, hbox g1 24 [.int .i64 b2.X, .int .i64 b2.Y]] w) l ⟨0, (-1), rfl, Nat.zero_add _, h, ((((((((((hf.nil.cons (hf.get 18 _ rfl)).cons (hf.get 17 _ rfl)).cons (hf.get 15 _ rfl)).cons (hf.get 14 _ rfl)).cons (hf.get 7 _ rfl)).cons (hf.get 6 _ rfl)).cons (hf.get 5 _ rfl)).cons (hf.get 3 _ rfl)).cons (hf.get 0 _ rfl)).cons (hf.get 19 _ rfl)), hs⟩ ?_
    clear h hf hs
    rintro llk2 a w ⟨k2, n2, hlk2, hkk2, h, hf, hs⟩
    cases llk2 with
    | nil =>
      have hc := range_done hkk2
      replace h : (fun (n2 : Int) => idx l n2 fun x1 => idx l4 n2 fun x2 => must (room (l3 ++ [n2]).length 8) (next1 (l3 ++ [n2]) (l4.set n2.toNat true) x1)) n2 := h
      refine wp_seq ?_
      refine R.list ?_
      refine S.val hf hs (v := .bool false) rfl rfl rfl (V.cmp false rfl rfl rfl rfl hc) (fun a hf => ?_)
      refine R.nil ?_
      refine X.then_ ?_
      refine wp_seq ?_
      refine C.no hf rfl ?_
      refine wp_exit ?_
      refine X.then_exit ?_
      refine X.then_exit ?_
      refine X.blk_exit ?_
      refine X.then_ ?_
      refine wp_seq ?_
      refine R.list ?_
      refine S.val hf hs (v := .slice l4A l4.length l4C) rfl rfl rfl (V.pure rfl) (fun a hf => ?_)
      refine S.val hf hs (v := .int .i64 n2) rfl rfl rfl (V.pure rfl) (fun a hf => ?_)
      refine S.val hf hs (v := .slice lA l.length lC) rfl rfl rfl (V.pure rfl) (fun a hf => ?_)
      refine S.val hf hs (v := .int .i64 n2) rfl rfl rfl (V.pure rfl) (fun a hf => ?_)
      obtain ⟨h0x1, x1, hx1, h⟩ := h
      refine S.val hf hs (v := elemPtr lA (n2.toNat * 2)) rfl rfl rfl (V.index rfl rfl rfl Try.runUnderlying22 Try.sizeOf24 (hv_l.some_ (lt_of_get hx1)) h0x1 (lt_of_get hx1) rfl) (fun a hf => ?_)
      refine S.val hf hs (v := .agg #[.int .i64 x1.X, .int .i64 x1.Y]) rfl rfl rfl (V.loadEl (off := 0) (Ag.args _ _ _) (hv_l.flat hx1) rfl rfl rfl Try.isAgg24 Try.sizeOf24 rfl rfl) (fun a hf => ?_)
      obtain ⟨h0x2, x2, hx2, h⟩ := h
      refine S.val hf hs (v := elemPtr l4A (n2.toNat * 1)) rfl rfl rfl (V.index rfl rfl rfl Try.runUnderlying90 Try.sizeOf4 (hs.ownSome 1 rfl (lt_of_get hx2)) h0x2 (lt_of_get hx2) rfl) (fun a hf => ?_)
      refine S.storeOwn (off := 0) 1 hf hs rfl rfl true [.bool true] rfl hx2 rfl rfl rfl rfl rfl Try.sizeOf4 rfl (by decide) rfl rfl (fun a w hf hs => ?_)
      replace hf := hf.tell 5 (v := .slice l4A (l4.set n2.toNat true).length l4C) ((hf.get 5 (.slice l4A l4.length l4C) rfl).trans (congrArg (fun n => Value.slice l4A n l4C) List.length_set.symm))
      replace hf := hf.tell 47 (v := .slice l4A (l4.set n2.toNat true).length l4C) ((hf.get 47 (.slice l4A l4.length l4C) rfl).trans (congrArg (fun n => Value.slice l4A n l4C) List.length_set.symm))
      refine S.storeBox 2 hf hs rfl rfl [.int .i64 x1.X, .int .i64 x1.Y] [.int .i64 x1.X, .int .i64 x1.Y] rfl rfl rfl rfl rfl Try.sizeOf24 rfl rfl rfl rfl (fun a w hf hs => ?_)
      refine R.nil ?_
      refine X.then_ ?_
      refine R.list ?_
      refine S.val hf hs (v := .slice l3A l3.length l3C) rfl rfl rfl (V.pure rfl) (fun a hf => ?_)
      refine S.val hf hs (v := .int .i64 n2) rfl rfl rfl (V.pure rfl) (fun a hf => ?_)
      refine S.build1 hf hs rfl rfl rfl (α := Int) n2 rfl rfl rfl Try.runUnderlying28 Try.sizeOf3 Try.zeroValue3 rfl (by decide) (fun A2 a w hf hs => ?_)
      obtain ⟨hroom, h⟩ := h
      refine S.appendCells 1 hf hs rfl rfl rfl rfl rfl rfl rfl Try.underlying28 info3 rfl hroom ((hs.ownView 0 rfl).some_ (i := 0) (by simp)) (hs.ownView 0 rfl) (fun A3 C1 a w hf hs => ?_)
      replace hs := hs.drop
      refine S.val hf hs (v := .slice A3 (l3 ++ [n2]).length C1) rfl rfl rfl (V.pure rfl) (fun a hf => ?_)
      refine R.nil ?_
      refine X.blk ?_
      refine X.then_ ?_
      refine R.list ?_
      refine S.val hf hs (v := .int .i64 ((k1 + 1 : Nat) : Int)) rfl rfl rfl (V.incr rfl rfl rfl hltk1 hlenk1) (fun a hf => ?_)
      refine S.val hf hs (v := .int .i64 ((k1 + 1 : Nat) : Int)) rfl rfl rfl (V.pure rfl) (fun a hf => ?_)
      refine R.nil ?_
      refine X.then_ ?_
      exact ⟨xk1, llk1, rfl, k1 + 1, (l3 ++ [n2]), A3, C1, (l4.set n2.toNat true), l4A, l4C, x1, range_drop hlk1, range_len hkk1, (by rw [hnext1] at h; exact h), ((((((hf.nil.cons (hf.get 14 _ rfl)).cons (hf.get 6 _ rfl)).cons (hf.get 5 _ rfl)).cons (hf.get 3 _ rfl)).cons (hf.get 0 _ rfl)).cons (hf.get 15 _ rfl)), hs⟩
    | cons xk2 llk2 =>
      have hltk2 := range_lt hkk2; have hc := range_go hkk2; have hxk2 := range_get hlk2
      obtain ⟨next2, hnext2⟩ : ∃ X : Int → Prop, X = (fun n2 => forIn' (fun k x (s : Int) next => M_ref8_greedy_L2 l l4 b2 k x s (fun n2 => next n2)) (fun (s : Int) => (fun (n2 : Int) => idx l n2 fun x1 => idx l4 n2 fun x2 => must (room (l3 ++ [n2]).length 8) (next1 (l3 ++ [n2]) (l4.set n2.toNat true) x1)) s) llk2 (k2 + 1) n2) := ⟨_, rfl⟩
      replace h : M_ref8_greedy_L2 l l4 b2 k2 xk2 n2 next2 := by rw [hnext2]; exact h
      unfold M_ref8_greedy_L2 at h
      refine wp_seq ?_
      refine R.list ?_
      refine S.val hf hs (v := .bool true) rfl rfl rfl (V.cmp true rfl rfl rfl rfl hc) (fun a hf => ?_)
      refine R.nil ?_
      refine X.then_ ?_
      refine wp_seq ?_
      refine C.yes hf rfl ?_
      refine wp_skip ?_
      refine X.then_ ?_
      refine wp_seq ?_
      refine wp_block ?_
      refine wp_seq ?_
      refine R.list ?_
      refine S.val hf hs (v := .int .i64 (k2 : Int)) rfl rfl rfl (V.pure rfl) (fun a hf => ?_)
      refine S.val hf hs (v := elemPtr lA (k2 * 2)) rfl rfl rfl (V.index rfl rfl rfl Try.runUnderlying22 Try.sizeOf24 (hv_l.some_ (lt_of_get hxk2)) (Int.natCast_nonneg _) (lt_of_get hxk2) rfl) (fun a hf => ?_)
      refine S.val hf hs (v := .agg #[.int .i64 xk2.X, .int .i64 xk2.Y]) rfl rfl rfl (V.loadEl (off := 0) (Ag.args _ _ _) (hv_l.flat hxk2) rfl rfl rfl Try.isAgg24 Try.sizeOf24 rfl rfl) (fun a hf => ?_)
      refine S.alloc hf hs rfl rfl rfl [.int .i64 0, .int .i64 0] rfl Try.zeroValue24 rfl (fun g2 a w hf hs => ?_)
      refine S.val hf hs (v := .int .i64 (k2 : Int)) rfl rfl rfl (V.pure rfl) (fun a hf => ?_)
      refine S.storeBox 0 hf hs rfl rfl [.int .i64 xk2.X, .int .i64 xk2.Y] [.int .i64 xk2.X, .int .i64 xk2.Y] rfl rfl rfl rfl rfl Try.sizeOf24 rfl rfl rfl rfl (fun a w hf hs => ?_)
      refine R.nil ?_
      refine X.then_ ?_
      refine wp_seq ?_
      refine C.cut (J := fun a w => ∃ (c1 : Bool), M_ref8_greedy_k3 k2 n2 next2 c1 ∧ FrOk 60 [(0, .slice lA l.length lC), (3, .pointer (some ⟨g1, 0, none⟩)), (5, .slice l4A l4.length l4C), (6, .slice l3A l3.length l3C), (7, .int .i64 n2), (8, .int .i64 (k2 : Int)), (14, .int .i64 (l.length : Int)), (15, .int .i64 (k1 : Int)), (17, .slice lA l.length lC), (18, .int .i64 (l.length : Int)), (19, .int .i64 (k2 : Int)), (44, .bool c1)] a ∧ Sat w0 none_ [hbox g2 24 [.int .i64 xk2.X, .int .i64 xk2.Y], hown 3 l3A l3C l3, hown 4 l4A l4C l4, hbox g1 24 [.int .i64 b2.X, .int .i64 b2.Y]] w) ?_ ?_
      · rintro a w ⟨c1, h, hf, hs⟩
        unfold M_ref8_greedy_k3 at h
        refine C.cond hf (b := c1) rfl (fun hc => ?_) (fun hc => ?_)
        · replace h := h.1 hc
          refine R.list ?_
          refine S.val hf hs (v := .int .i64 (k2 : Int)) rfl rfl rfl (V.pure rfl) (fun a hf => ?_)
          refine S.val hf hs (v := .int .i64 (k2 : Int)) rfl rfl rfl (V.pure rfl) (fun a hf => ?_)
          refine R.nil ?_
          refine X.blk ?_
          refine X.then_ ?_
          refine R.list ?_
          refine S.val hf hs (v := .int .i64 ((k2 + 1 : Nat) : Int)) rfl rfl rfl (V.incr rfl rfl rfl hltk2 hlenk2) (fun a hf => ?_)
          refine S.val hf hs (v := .int .i64 ((k2 + 1 : Nat) : Int)) rfl rfl rfl (V.pure rfl) (fun a hf => ?_)
          refine R.nil ?_
          refine X.then_ ?_
          exact ⟨xk2, llk2, rfl, k2 + 1, (k2 : Int), range_drop hlk2, range_len hkk2, (by rw [hnext2] at h; exact h), ((((((((((hf.nil.cons (hf.get 18 _ rfl)).cons (hf.get 17 _ rfl)).cons (hf.get 15 _ rfl)).cons (hf.get 14 _ rfl)).cons (hf.get 7 _ rfl)).cons (hf.get 6 _ rfl)).cons (hf.get 5 _ rfl)).cons (hf.get 3 _ rfl)).cons (hf.get 0 _ rfl)).cons (hf.get 19 _ rfl)), hs.drop⟩
        · replace h := h.2 hc
          refine wp_skip ?_
          refine X.blk ?_
          refine X.then_ ?_
          refine R.list ?_
          refine S.val hf hs (v := .int .i64 ((k2 + 1 : Nat) : Int)) rfl rfl rfl (V.incr rfl rfl rfl hltk2 hlenk2) (fun a hf => ?_)
          refine S.val hf hs (v := .int .i64 ((k2 + 1 : Nat) : Int)) rfl rfl rfl (V.pure rfl) (fun a hf => ?_)
          refine R.nil ?_
          refine X.then_ ?_
          exact ⟨xk2, llk2, rfl, k2 + 1, n2, range_drop hlk2, range_len hkk2, (by rw [hnext2] at h; exact h), ((((((((((hf.nil.cons (hf.get 18 _ rfl)).cons (hf.get 17 _ rfl)).cons (hf.get 15 _ rfl)).cons (hf.get 14 _ rfl)).cons (hf.get 7 _ rfl)).cons (hf.get 6 _ rfl)).cons (hf.get 5 _ rfl)).cons (hf.get 3 _ rfl)).cons (hf.get 0 _ rfl)).cons (hf.get 19 _ rfl)), hs.drop⟩
      · skip
        refine R.draw mo (by kernel_rfl) hs ?_
        refine D.val hf (v := .slice l4A l4.length l4C) rfl rfl rfl (V.pure rfl) (fun a hf => ?_)
        refine D.val hf (v := .int .i64 (k2 : Int)) rfl rfl rfl (V.pure rfl) (fun a hf => ?_)
        obtain ⟨h0x3, x3, hx3, h⟩ := h
        refine D.val hf (v := elemPtr l4A (k2 * 1)) rfl rfl rfl (V.index rfl rfl rfl Try.runUnderlying90 Try.sizeOf4 (hs.ownSome 2 rfl (lt_of_get hx3)) (Int.natCast_nonneg _) (lt_of_get hx3) rfl) (fun a hf => ?_)
        refine D.val hf (v := .bool x3) rfl rfl rfl (V.loadOwn (off := 0) 2 rfl hx3 rfl rfl rfl Try.isAgg4 Try.sizeOf4 rfl rfl) (fun a hf => ?_)
        refine D.val hf (v := .bool (!x3)) rfl rfl rfl (V.pure rfl) (fun a hf => ?_)
        refine D.split hf (b := !x3) rfl rfl rfl (V.pure rfl) (fun hc a hf => ?_) (fun hc a hf => ?_)
        · replace h := h.1 hc
          refine D.val hf (v := .int .i64 n2) rfl rfl rfl (V.pure rfl) (fun a hf => ?_)
          refine D.val hf (v := .bool (decide (n2 < 0))) rfl rfl rfl (V.pure rfl) (fun a hf => ?_)
          refine D.split hf (b := decide (n2 < 0)) rfl rfl rfl (V.pure rfl) (fun hc a hf => ?_) (fun hc a hf => ?_)
          · replace h := h.1 hc
            refine D.skip hf rfl rfl rfl (fun a hf => ?_)
            refine D.skip hf rfl rfl rfl (fun a hf => ?_)
            refine D.skip hf rfl rfl rfl (fun a hf => ?_)
            refine D.skip hf rfl rfl rfl (fun a hf => ?_)
            refine D.skip hf rfl rfl rfl (fun a hf => ?_)
            refine D.skip hf rfl rfl rfl (fun a hf => ?_)
            refine D.skip hf rfl rfl rfl (fun a hf => ?_)
            refine D.skip hf rfl rfl rfl (fun a hf => ?_)
            refine D.skip hf rfl rfl rfl (fun a hf => ?_)
            refine D.skip hf rfl rfl rfl (fun a hf => ?_)
            refine D.val hf (v := .bool true) rfl rfl rfl (V.pure rfl) (fun a hf => ?_)
            refine D.val hf (v := .bool true) rfl rfl rfl (V.pure rfl) (fun a hf => ?_)
            refine D.done (fun w hs => ?_)
            refine X.then_ ?_
            exact ⟨true, h, ((((((((((((hf.nil.cons (hf.get 44 _ rfl)).cons (hf.get 19 _ rfl)).cons (hf.get 18 _ rfl)).cons (hf.get 17 _ rfl)).cons (hf.get 15 _ rfl)).cons (hf.get 14 _ rfl)).cons (hf.get 8 _ rfl)).cons (hf.get 7 _ rfl)).cons (hf.get 6 _ rfl)).cons (hf.get 5 _ rfl)).cons (hf.get 3 _ rfl)).cons (hf.get 0 _ rfl)), hs⟩
          · replace h := h.2 hc
            refine D.val hf (v := .agg #[.int .i64 b2.X, .int .i64 b2.Y]) rfl rfl rfl (V.loadBox 3 rfl rfl rfl Try.isAgg24 Try.sizeOf24 rfl rfl) (fun a hf => ?_)
            refine D.val hf (v := .agg #[.int .i64 xk2.X, .int .i64 xk2.Y]) rfl rfl rfl (V.loadBox 0 rfl rfl rfl Try.isAgg24 Try.sizeOf24 rfl rfl) (fun a hf => ?_)
            refine D.call hf (v := .int .i64 (rdist b2 xk2)) rfl rfl rfl (call_fn (vs := [.agg #[.int .i64 b2.X, .int .i64 b2.Y], .agg #[.int .i64 xk2.X, .int .i64 xk2.Y]]) rfl rfl rfl Try.call51) (fun w hs => Ret.quiet hs (C_ref8_distance b2 xk2 w )) (fun a hf => ?_)
            refine D.val hf (v := .agg #[.int .i64 b2.X, .int .i64 b2.Y]) rfl rfl rfl (V.loadBox 3 rfl rfl rfl Try.isAgg24 Try.sizeOf24 rfl rfl) (fun a hf => ?_)
            refine D.val hf (v := .slice lA l.length lC) rfl rfl rfl (V.pure rfl) (fun a hf => ?_)
            refine D.val hf (v := .int .i64 n2) rfl rfl rfl (V.pure rfl) (fun a hf => ?_)
            obtain ⟨h0x4, x4, hx4, h⟩ := h
            refine D.val hf (v := elemPtr lA (n2.toNat * 2)) rfl rfl rfl (V.index rfl rfl rfl Try.runUnderlying22 Try.sizeOf24 (hv_l.some_ (lt_of_get hx4)) h0x4 (lt_of_get hx4) rfl) (fun a hf => ?_)
            refine D.val hf (v := .agg #[.int .i64 x4.X, .int .i64 x4.Y]) rfl rfl rfl (V.loadEl (off := 0) (Ag.args _ _ _) (hv_l.flat hx4) rfl rfl rfl Try.isAgg24 Try.sizeOf24 rfl rfl) (fun a hf => ?_)
            refine D.call hf (v := .int .i64 (rdist b2 x4)) rfl rfl rfl (call_fn (vs := [.agg #[.int .i64 b2.X, .int .i64 b2.Y], .agg #[.int .i64 x4.X, .int .i64 x4.Y]]) rfl rfl rfl Try.call51) (fun w hs => Ret.quiet hs (C_ref8_distance b2 x4 w )) (fun a hf => ?_)
            refine D.val hf (v := .bool (decide ((rdist b2 xk2) < (rdist b2 x4)))) rfl rfl rfl (V.pure rfl) (fun a hf => ?_)
            refine D.val hf (v := .bool (decide ((rdist b2 xk2) < (rdist b2 x4)))) rfl rfl rfl (V.pure rfl) (fun a hf => ?_)
            refine D.val hf (v := .bool (decide ((rdist b2 xk2) < (rdist b2 x4)))) rfl rfl rfl (V.pure rfl) (fun a hf => ?_)
            refine D.done (fun w hs => ?_)
            refine X.then_ ?_
            exact ⟨(decide ((rdist b2 xk2) < (rdist b2 x4))), h, ((((((((((((hf.nil.cons (hf.get 44 _ rfl)).cons (hf.get 19 _ rfl)).cons (hf.get 18 _ rfl)).cons (hf.get 17 _ rfl)).cons (hf.get 15 _ rfl)).cons (hf.get 14 _ rfl)).cons (hf.get 8 _ rfl)).cons (hf.get 7 _ rfl)).cons (hf.get 6 _ rfl)).cons (hf.get 5 _ rfl)).cons (hf.get 3 _ rfl)).cons (hf.get 0 _ rfl)), hs⟩
        · replace h := h.2 hc
          refine D.skip hf rfl rfl rfl (fun a hf => ?_)
          refine D.skip hf rfl rfl rfl (fun a hf => ?_)
          refine D.skip hf rfl rfl rfl (fun a hf => ?_)
          refine D.skip hf rfl rfl rfl (fun a hf => ?_)
          refine D.skip hf rfl rfl rfl (fun a hf => ?_)
          refine D.skip hf rfl rfl rfl (fun a hf => ?_)
          refine D.skip hf rfl rfl rfl (fun a hf => ?_)
          refine D.skip hf rfl rfl rfl (fun a hf => ?_)
          refine D.skip hf rfl rfl rfl (fun a hf => ?_)
          refine D.skip hf rfl rfl rfl (fun a hf => ?_)
          refine D.skip hf rfl rfl rfl (fun a hf => ?_)
          refine D.skip hf rfl rfl rfl (fun a hf => ?_)
          refine D.skip hf rfl rfl rfl (fun a hf => ?_)
          refine D.skip hf rfl rfl rfl (fun a hf => ?_)
          refine D.val hf (v := .bool false) rfl rfl rfl (V.pure rfl) (fun a hf => ?_)
          refine D.done (fun w hs => ?_)
          refine X.then_ ?_
          exact ⟨false, h, ((((((((((((hf.nil.cons (hf.get 44 _ rfl)).cons (hf.get 19 _ rfl)).cons (hf.get 18 _ rfl)).cons (hf.get 17 _ rfl)).cons (hf.get 15 _ rfl)).cons (hf.get 14 _ rfl)).cons (hf.get 8 _ rfl)).cons (hf.get 7 _ rfl)).cons (hf.get 6 _ rfl)).cons (hf.get 5 _ rfl)).cons (hf.get 3 _ rfl)).cons (hf.get 0 _ rfl)), hs⟩

set_option linter.unusedVariables false
def M_ref8_Greedy (l : (List Point)) (from_ : Point) (Q : (List Int) → Int → Prop) : Prop :=
  M_ref8_askPoints l from_ 200 fun y1 => cnd (y1 != 0) (Q ([] : List Int) y1) (M_ref8_greedy l from_ fun y2 => Q y2 0)
set_option maxHeartbeats 1000000 in
theorem R_ref8_Greedy (l : (List Point)) (from_ : Point) (w0 : World) (lA : Option Addr) (lC : Nat) (hv_l : View w0 (old w0 none_) lA lC l) (Q : (List Int) → Int → Prop) (h : M_ref8_Greedy l from_ Q) :
    Ret Try.prog 18 #[.slice lA l.length lC, .agg #[.int .i64 from_.X, .int .i64 from_.Y]] w0 fun v w' => ∃ (r0 : (List Int)) (r0A : Option Addr) (r0C : Nat) (r1 : Int), v = .tuple #[.slice r0A r0.length r0C, .int .i64 r1] ∧ Q r0 r1 ∧ Sat w0 none_ [hown 3 r0A r0C r0] w' := by
  refine fn_enter Try.func18 rfl Try.ntmps18 rfl (fs := [(0, .slice lA l.length lC), (1, .agg #[.int .i64 from_.X, .int .i64 from_.Y])]) rfl (fun a hf => ?_)
  have hs := Sat.start w0 none_
  unfold M_ref8_Greedy at h
  refine wp_seq ?_
  refine R.list ?_
  refine S.box hf hs rfl rfl rfl [.int .i64 from_.X, .int .i64 from_.Y] rfl rfl rfl (fun g1 a w hf hs => ?_)
  refine S.val hf hs (v := .slice none 0 0) rfl rfl rfl (V.pure rfl) (fun a hf => ?_)
  refine S.val hf hs (v := .int .i64 0) rfl rfl rfl (V.pure rfl) (fun a hf => ?_)
  refine R.nil ?_
  refine X.then_ ?_
  refine wp_seq ?_
  refine wp_seq ?_
  refine R.list ?_
  refine S.val hf hs (v := .slice lA l.length lC) rfl rfl rfl (V.pure rfl) (fun a hf => ?_)
  refine S.val hf hs (v := .agg #[.int .i64 from_.X, .int .i64 from_.Y]) rfl rfl rfl (V.loadBox 0 rfl rfl rfl Try.isAgg24 Try.sizeOf24 rfl rfl) (fun a hf => ?_)
  refine S.call hf rfl rfl rfl (call_fn (vs := [.slice lA l.length lC, .agg #[.int .i64 from_.X, .int .i64 from_.Y], .int .i64 200]) rfl rfl rfl Try.call50) (R_ref8_askPoints l from_ 200 _ lA lC ((Ag.args _ _ _).view hv_l hs) _ h) (fun v a w' hf hr => ?_)
  obtain ⟨y1, rfl, h2, hs2⟩ := hr
  replace h := h2; replace hs := hs.call hs2; clear h2 hs2
  refine S.val hf hs (v := .int .i64 y1) rfl rfl rfl (V.pure rfl) (fun a hf => ?_)
  refine R.nil ?_
  refine X.then_ ?_
  refine wp_seq ?_
  refine R.list ?_
  refine S.val hf hs (v := .int .i64 y1) rfl rfl rfl (V.pure rfl) (fun a hf => ?_)
  refine S.val hf hs (v := .bool (y1 != 0)) rfl rfl rfl (V.pure rfl) (fun a hf => ?_)
  refine R.nil ?_
  refine X.then_ ?_
  refine C.cond hf (b := y1 != 0) rfl (fun hc => ?_) (fun hc => ?_)
  · replace h := h.1 hc
    refine wp_seq ?_
    refine R.list ?_
    refine S.val hf hs (v := .int .i64 y1) rfl rfl rfl (V.pure rfl) (fun a hf => ?_)
    refine S.val hf hs (v := .slice none 0 0) rfl rfl rfl (V.pure rfl) (fun a hf => ?_)
    refine S.val hf hs (v := .int .i64 y1) rfl rfl rfl (V.pure rfl) (fun a hf => ?_)
    refine R.nil ?_
    refine X.then_ ?_
    refine wp_ret ?_
    refine X.then_ret ?_
    replace hs := hs.nilOwn (α := Int) 3
    replace hs := hs.take 1
    exact L.ret hf (run_results2 Try.results18 (ResIs.tmp hf rfl) (ResIs.tmp hf rfl)) ⟨([] : List Int), none, 0, y1, rfl, h, hs⟩
  · replace h := h.2 hc
    refine wp_skip ?_
    refine X.then_ ?_
    refine wp_seq ?_
    refine R.list ?_
    refine S.val hf hs (v := .slice lA l.length lC) rfl rfl rfl (V.pure rfl) (fun a hf => ?_)
    refine S.val hf hs (v := .agg #[.int .i64 from_.X, .int .i64 from_.Y]) rfl rfl rfl (V.loadBox 0 rfl rfl rfl Try.isAgg24 Try.sizeOf24 rfl rfl) (fun a hf => ?_)
    refine S.call hf rfl rfl rfl (call_fn (vs := [.slice lA l.length lC, .agg #[.int .i64 from_.X, .int .i64 from_.Y]]) rfl rfl rfl Try.call53) (R_ref8_greedy l from_ _ lA lC ((Ag.args _ _ _).view hv_l hs) _ h) (fun v a w' hf hr => ?_)
    obtain ⟨y2, y2A, y2C, rfl, h2, hs2⟩ := hr
    replace h := h2; replace hs := hs.call hs2; clear h2 hs2
    refine S.val hf hs (v := .slice y2A y2.length y2C) rfl rfl rfl (V.pure rfl) (fun a hf => ?_)
    refine S.val hf hs (v := .int .i64 0) rfl rfl rfl (V.pure rfl) (fun a hf => ?_)
    refine R.nil ?_
    refine X.then_ ?_
    refine wp_ret ?_
    replace hs := hs.take 1
    exact L.ret hf (run_results2 Try.results18 (ResIs.tmp hf rfl) (ResIs.tmp hf rfl)) ⟨y2, y2A, y2C, 0, rfl, h, hs⟩

set_option linter.unusedVariables false
def M_equal_int_L1 (s2 : (List Int)) (Q : Bool → Prop) (k1 : Nat) (xk1 : Int)  (next1 : Prop) : Prop :=
  idx s2 (k1 : Int) fun x1 => cnd (xk1 != x1) (Q false) (next1)
def M_equal_int (s1 : (List Int)) (s2 : (List Int)) (Q : Bool → Prop) : Prop :=
  cnd ((s1.length : Int) != (s2.length : Int)) (Q false) (forIn' (fun k x (s : Unit) next => M_equal_int_L1 s2 Q k x (next ())) (fun (s : Unit) => Q true) s1 0 ())
set_option maxHeartbeats 1000000 in
theorem R_equal_int (s1 : (List Int)) (s2 : (List Int)) (w0 : World) (s1A : Option Addr) (s1C : Nat) (hv_s1 : View w0 (old w0 none_) s1A s1C s1) (s2A : Option Addr) (s2C : Nat) (hv_s2 : View w0 (old w0 none_) s2A s2C s2) (Q : Bool → Prop) (h : M_equal_int s1 s2 Q) :
    Ret Try.prog 19 #[.slice s1A s1.length s1C, .slice s2A s2.length s2C] w0 fun v w' => ∃ (r0 : Bool), v = .bool r0 ∧ Q r0 ∧ Sat w0 none_ [] w' := by
  refine fn_enter Try.func19 rfl Try.ntmps19 rfl (fs := [(0, .slice s1A s1.length s1C), (1, .slice s2A s2.length s2C)]) rfl (fun a hf => ?_)
  have hs := Sat.start w0 none_
  unfold M_equal_int at h
  refine wp_seq ?_
  refine R.list ?_
  refine S.val hf hs (v := .bool false) rfl rfl rfl (V.pure rfl) (fun a hf => ?_)
  refine R.nil ?_
  refine X.then_ ?_
  refine wp_seq ?_
  refine wp_seq ?_
  refine R.list ?_
  refine S.val hf hs (v := .slice s1A s1.length s1C) rfl rfl rfl (V.pure rfl) (fun a hf => ?_)
  refine S.val hf hs (v := .int .i64 (s1.length : Int)) rfl rfl rfl (V.len rfl rfl Try.runUnderlying28) (fun a hf => ?_)
  refine S.val hf hs (v := .slice s2A s2.length s2C) rfl rfl rfl (V.pure rfl) (fun a hf => ?_)
  refine S.val hf hs (v := .int .i64 (s2.length : Int)) rfl rfl rfl (V.len rfl rfl Try.runUnderlying28) (fun a hf => ?_)
  refine S.val hf hs (v := .bool ((s1.length : Int) != (s2.length : Int))) rfl rfl rfl (V.pure rfl) (fun a hf => ?_)
  refine R.nil ?_
  refine X.then_ ?_
  refine C.cond hf (b := (s1.length : Int) != (s2.length : Int)) rfl (fun hc => ?_) (fun hc => ?_)
  · replace h := h.1 hc
    refine wp_seq ?_
    refine R.list ?_
    refine S.val hf hs (v := .bool false) rfl rfl rfl (V.pure rfl) (fun a hf => ?_)
    refine R.nil ?_
    refine X.then_ ?_
    refine wp_ret ?_
    refine X.then_ret ?_
    exact L.ret hf (run_results1 Try.results19 (ResIs.tmp hf rfl)) ⟨false, rfl, h, hs.nil⟩
  · replace h := h.2 hc
    refine wp_skip ?_
    refine X.then_ ?_
    refine wp_seq ?_
    refine wp_seq ?_
    refine R.list ?_
    refine S.val hf hs (v := .slice s1A s1.length s1C) rfl rfl rfl (V.pure rfl) (fun a hf => ?_)
    refine S.val hf hs (v := .int .i64 (s1.length : Int)) rfl rfl rfl (V.len rfl rfl Try.runUnderlying28) (fun a hf => ?_)
    refine S.val hf hs (v := .int .i64 0) rfl rfl rfl (V.pure rfl) (fun a hf => ?_)
    refine R.nil ?_
    refine X.then_ ?_
    refine wp_block ?_
    have hlenk1 := hv_s1.len64
    refine C.range (fun (ll : List Int) a w => ∃ (k1 : Nat) , s1.drop k1 = ll ∧ k1 + ll.length = s1.length ∧ forIn' (fun k x (s : Unit) next => M_equal_int_L1 s2 Q k x (next ())) (fun (s : Unit) => Q true) ll k1 () ∧ FrOk 26 [(13, .int .i64 (k1 : Int)), (0, .slice s1A s1.length s1C), (1, .slice s2A s2.length s2C), (12, .int .i64 (s1.length : Int))] a ∧ Sat w0 none_ [] w) s1 ⟨0, rfl, Nat.zero_add _, h, ((((hf.nil.cons (hf.get 12 _ rfl)).cons (hf.get 1 _ rfl)).cons (hf.get 0 _ rfl)).cons (hf.get 13 _ rfl)), hs⟩ ?_
    clear h hf hs
    rintro llk1 a w ⟨k1, hlk1, hkk1, h, hf, hs⟩
    cases llk1 with
    | nil =>
      have hc := range_done hkk1
      replace h : Q true := h
      refine wp_seq ?_
      refine R.list ?_
      refine S.val hf hs (v := .bool false) rfl rfl rfl (V.cmp false rfl rfl rfl rfl hc) (fun a hf => ?_)
      refine R.nil ?_
      refine X.then_ ?_
      refine wp_seq ?_
      refine C.no hf rfl ?_
      refine wp_exit ?_
      refine X.then_exit ?_
      refine X.then_exit ?_
      refine X.blk_exit ?_
      refine X.then_ ?_
      refine wp_seq ?_
      refine R.list ?_
      refine S.val hf hs (v := .bool true) rfl rfl rfl (V.pure rfl) (fun a hf => ?_)
      refine R.nil ?_
      refine X.then_ ?_
      refine wp_ret ?_
      exact L.ret hf (run_results1 Try.results19 (ResIs.tmp hf rfl)) ⟨true, rfl, h, hs.nil⟩
    | cons xk1 llk1 =>
      have hltk1 := range_lt hkk1; have hc := range_go hkk1; have hxk1 := range_get hlk1
      obtain ⟨next1, hnext1⟩ : ∃ X : Prop, X = (forIn' (fun k x (s : Unit) next => M_equal_int_L1 s2 Q k x (next ())) (fun (s : Unit) => Q true) llk1 (k1 + 1) ()) := ⟨_, rfl⟩
      replace h : M_equal_int_L1 s2 Q k1 xk1  next1 := by rw [hnext1]; exact h
      unfold M_equal_int_L1 at h
      refine wp_seq ?_
      refine R.list ?_
      refine S.val hf hs (v := .bool true) rfl rfl rfl (V.cmp true rfl rfl rfl rfl hc) (fun a hf => ?_)
      refine R.nil ?_
      refine X.then_ ?_
      refine wp_seq ?_
      refine C.yes hf rfl ?_
      refine wp_skip ?_
      refine X.then_ ?_
      refine wp_seq ?_
      refine wp_block ?_
      refine wp_seq ?_
      refine R.list ?_
      refine S.val hf hs (v := .int .i64 (k1 : Int)) rfl rfl rfl (V.pure rfl) (fun a hf => ?_)
      refine S.val hf hs (v := .int .i64 (k1 : Int)) rfl rfl rfl (V.pure rfl) (fun a hf => ?_)
      refine R.nil ?_
      refine X.then_ ?_
      refine wp_seq ?_
      refine R.draw mo (by kernel_rfl) hs ?_
      refine D.val hf (v := .slice s1A s1.length s1C) rfl rfl rfl (V.pure rfl) (fun a hf => ?_)
      refine D.val hf (v := .int .i64 (k1 : Int)) rfl rfl rfl (V.pure rfl) (fun a hf => ?_)
      refine D.val hf (v := elemPtr s1A (k1 * 1)) rfl rfl rfl (V.index rfl rfl rfl Try.runUnderlying28 Try.sizeOf3 (hv_s1.some_ (lt_of_get hxk1)) (Int.natCast_nonneg _) (lt_of_get hxk1) rfl) (fun a hf => ?_)
      refine D.val hf (v := .int .i64 xk1) rfl rfl rfl (V.loadEl (off := 0) (Ag.args _ _ _) (hv_s1.flat hxk1) rfl rfl rfl Try.isAgg3 Try.sizeOf3 rfl rfl) (fun a hf => ?_)
      refine D.val hf (v := .slice s2A s2.length s2C) rfl rfl rfl (V.pure rfl) (fun a hf => ?_)
      refine D.val hf (v := .int .i64 (k1 : Int)) rfl rfl rfl (V.pure rfl) (fun a hf => ?_)
      obtain ⟨h0x1, x1, hx1, h⟩ := h
      refine D.val hf (v := elemPtr s2A (k1 * 1)) rfl rfl rfl (V.index rfl rfl rfl Try.runUnderlying28 Try.sizeOf3 (hv_s2.some_ (lt_of_get hx1)) (Int.natCast_nonneg _) (lt_of_get hx1) rfl) (fun a hf => ?_)
      refine D.val hf (v := .int .i64 x1) rfl rfl rfl (V.loadEl (off := 0) (Ag.args _ _ _) (hv_s2.flat hx1) rfl rfl rfl Try.isAgg3 Try.sizeOf3 rfl rfl) (fun a hf => ?_)
      refine D.val hf (v := .bool (xk1 != x1)) rfl rfl rfl (V.pure rfl) (fun a hf => ?_)
      refine D.done (fun w hs => ?_)
      refine X.then_ ?_
      refine C.cond hf (b := xk1 != x1) rfl (fun hc => ?_) (fun hc => ?_)
      · replace h := h.1 hc
        refine wp_seq ?_
        refine R.list ?_
        refine S.val hf hs (v := .bool false) rfl rfl rfl (V.pure rfl) (fun a hf => ?_)
        refine R.nil ?_
        refine X.then_ ?_
        refine wp_ret ?_
        refine X.blk_ret ?_
        refine X.then_ret ?_
        refine X.then_ret ?_
        refine X.blk_ret ?_
        refine X.then_ret ?_
        exact L.ret hf (run_results1 Try.results19 (ResIs.tmp hf rfl)) ⟨false, rfl, h, hs.nil⟩
      · replace h := h.2 hc
        refine wp_skip ?_
        refine X.blk ?_
        refine X.then_ ?_
        refine R.list ?_
        refine S.val hf hs (v := .int .i64 ((k1 + 1 : Nat) : Int)) rfl rfl rfl (V.incr rfl rfl rfl hltk1 hlenk1) (fun a hf => ?_)
        refine S.val hf hs (v := .int .i64 ((k1 + 1 : Nat) : Int)) rfl rfl rfl (V.pure rfl) (fun a hf => ?_)
        refine R.nil ?_
        refine X.then_ ?_
        exact ⟨xk1, llk1, rfl, k1 + 1, range_drop hlk1, range_len hkk1, (by rw [hnext1] at h; exact h), ((((hf.nil.cons (hf.get 12 _ rfl)).cons (hf.get 1 _ rfl)).cons (hf.get 0 _ rfl)).cons (hf.get 13 _ rfl)), hs⟩

set_option linter.unusedVariables false
def M_awake  (Q : Bool → Prop) : Prop :=
  M_drill_Way ([(⟨5, 0⟩ : Point), (⟨1, 0⟩ : Point), (⟨2, 3⟩ : Point)] : List Point) (⟨0, 0⟩ : Point) fun y1 y2 => cnd (y2 == 0) (Q (y1 == 12)) (Q false)
set_option maxHeartbeats 1000000 in
theorem R_awake  (w0 : World)  (Q : Bool → Prop) (h : M_awake  Q) :
    Ret Try.prog 20 #[] w0 fun v w' => ∃ (r0 : Bool), v = .bool r0 ∧ Q r0 ∧ Sat w0 none_ [] w' := by
  refine fn_enter Try.func20 rfl Try.ntmps20 rfl (fs := []) rfl (fun a hf => ?_)
  have hs := Sat.start w0 none_
  unfold M_awake at h
  refine wp_seq ?_
  refine R.list ?_
  refine S.val hf hs (v := .bool false) rfl rfl rfl (V.pure rfl) (fun a hf => ?_)
  refine R.nil ?_
  refine X.then_ ?_
  refine wp_seq ?_
  refine R.list ?_
  refine S.val hf hs (v := .agg #[.int .i64 5, .int .i64 0]) rfl rfl rfl (V.build (places := #[(0, 1), (1, 1)]) rfl Try.zeroValue24 Try.runUnderlying24 (by intro w; simp [Try.sizeOf3]) rfl rfl) (fun a hf => ?_)
  refine S.val hf hs (v := .agg #[.int .i64 1, .int .i64 0]) rfl rfl rfl (V.build (places := #[(0, 1), (1, 1)]) rfl Try.zeroValue24 Try.runUnderlying24 (by intro w; simp [Try.sizeOf3]) rfl rfl) (fun a hf => ?_)
  refine S.val hf hs (v := .agg #[.int .i64 2, .int .i64 3]) rfl rfl rfl (V.build (places := #[(0, 1), (1, 1)]) rfl Try.zeroValue24 Try.runUnderlying24 (by intro w; simp [Try.sizeOf3]) rfl rfl) (fun a hf => ?_)
  refine S.buildSlice hf hs rfl rfl rfl (α := Point) [(⟨5, 0⟩ : Point), (⟨1, 0⟩ : Point), (⟨2, 3⟩ : Point)] rfl rfl Try.runUnderlying22 Try.sizeOf24 Try.zeroValue24 (by kernel_rfl) rfl (by decide) (by decide) (fun A1 a w hf hs => ?_)
  refine S.val hf hs (v := .agg #[.int .i64 0, .int .i64 0]) rfl rfl rfl (V.build (places := #[(0, 1), (1, 1)]) rfl Try.zeroValue24 Try.runUnderlying24 (by intro w; simp [Try.sizeOf3]) rfl rfl) (fun a hf => ?_)
  refine S.call hf rfl rfl rfl (call_fn (vs := [.slice A1 ([(⟨5, 0⟩ : Point), (⟨1, 0⟩ : Point), (⟨2, 3⟩ : Point)] : List Point).length 3, .agg #[.int .i64 0, .int .i64 0]]) rfl rfl rfl Try.call15) (R_drill_Way ([(⟨5, 0⟩ : Point), (⟨1, 0⟩ : Point), (⟨2, 3⟩ : Point)] : List Point) (⟨0, 0⟩ : Point) _ A1 3 (hs.ownView 0 rfl) _ h) (fun v a w' hf hr => ?_)
  obtain ⟨y1, y2, rfl, h2, hs2⟩ := hr
  replace h := h2; replace hs := hs.call hs2; clear h2 hs2
  refine S.val hf hs (v := .tuple #[.int .i64 y1, .int .i64 y2]) rfl rfl rfl (V.pure rfl) (fun a hf => ?_)
  refine S.val hf hs (v := .int .i64 y1) rfl rfl rfl (V.pure rfl) (fun a hf => ?_)
  refine S.val hf hs (v := .int .i64 y2) rfl rfl rfl (V.pure rfl) (fun a hf => ?_)
  refine S.val hf hs (v := .int .i64 y1) rfl rfl rfl (V.pure rfl) (fun a hf => ?_)
  refine S.val hf hs (v := .int .i64 y2) rfl rfl rfl (V.pure rfl) (fun a hf => ?_)
  refine R.nil ?_
  refine X.then_ ?_
  refine wp_seq ?_
  refine R.list ?_
  refine S.val hf hs (v := .int .i64 y2) rfl rfl rfl (V.pure rfl) (fun a hf => ?_)
  refine S.val hf hs (v := .bool (y2 == 0)) rfl rfl rfl (V.pure rfl) (fun a hf => ?_)
  refine S.split hf hs (b := y2 == 0) rfl rfl rfl (V.pure rfl) (fun hc a hf => ?_) (fun hc a hf => ?_)
  · replace h := h.1 hc
    refine S.val hf hs (v := .int .i64 y1) rfl rfl rfl (V.pure rfl) (fun a hf => ?_)
    refine S.val hf hs (v := .bool (y1 == 12)) rfl rfl rfl (V.pure rfl) (fun a hf => ?_)
    refine S.val hf hs (v := .bool (y1 == 12)) rfl rfl rfl (V.pure rfl) (fun a hf => ?_)
    refine S.val hf hs (v := .bool (y1 == 12)) rfl rfl rfl (V.pure rfl) (fun a hf => ?_)
    refine R.nil ?_
    refine X.then_ ?_
    refine wp_ret ?_
    exact L.ret hf (run_results1 Try.results20 (ResIs.tmp hf rfl)) ⟨(y1 == 12), rfl, h, hs.nil⟩
  · replace h := h.2 hc
    refine S.skip hf rfl rfl rfl (fun a hf => ?_)
    refine S.skip hf rfl rfl rfl (fun a hf => ?_)
    refine S.val hf hs (v := .bool false) rfl rfl rfl (V.pure rfl) (fun a hf => ?_)
    refine S.val hf hs (v := .bool false) rfl rfl rfl (V.pure rfl) (fun a hf => ?_)
    refine R.nil ?_
    refine X.then_ ?_
    refine wp_ret ?_
    exact L.ret hf (run_results1 Try.results20 (ResIs.tmp hf rfl)) ⟨false, rfl, h, hs.nil⟩

set_option linter.unusedVariables false
def M_law_Ways_k1 (l : (List Point)) (from_ : Point) (Q : Bool → Prop) (c1 : Bool) : Prop :=
  cnd c1 (Q false) (M_drill_Greedy l from_ fun y5 y6 => M_ref8_Greedy l from_ fun y7 y8 => cnd (y6 == y8) (M_equal_int y5 y7 fun y9 => cnd y9 (M_awake  fun y10 => Q y10) (Q false)) (Q false))
def M_law_Ways (l : (List Point)) (from_ : Point) (Q : Bool → Prop) : Prop :=
  M_drill_Way l from_ fun y1 y2 => M_ref8_Way l from_ fun y3 y4 => cnd (y2 != y4) (M_law_Ways_k1 l from_ Q true) (M_law_Ways_k1 l from_ Q (y1 != y3))
set_option maxHeartbeats 1000000 in
theorem R_law_Ways (l : (List Point)) (from_ : Point) (w0 : World) (lA : Option Addr) (lC : Nat) (hv_l : View w0 (old w0 none_) lA lC l) (Q : Bool → Prop) (h : M_law_Ways l from_ Q) :
    Ret Try.prog 3 #[.slice lA l.length lC, .agg #[.int .i64 from_.X, .int .i64 from_.Y]] w0 fun v w' => ∃ (r0 : Bool), v = .bool r0 ∧ Q r0 ∧ Sat w0 none_ [] w' := by
  refine fn_enter Try.func3 rfl Try.ntmps3 rfl (fs := [(0, .slice lA l.length lC), (1, .agg #[.int .i64 from_.X, .int .i64 from_.Y])]) rfl (fun a hf => ?_)
  have hs := Sat.start w0 none_
  unfold M_law_Ways at h
  refine wp_seq ?_
  refine R.list ?_
  refine S.box hf hs rfl rfl rfl [.int .i64 from_.X, .int .i64 from_.Y] rfl rfl rfl (fun g1 a w hf hs => ?_)
  refine S.val hf hs (v := .bool false) rfl rfl rfl (V.pure rfl) (fun a hf => ?_)
  refine R.nil ?_
  refine X.then_ ?_
  refine wp_seq ?_
  refine R.list ?_
  refine S.val hf hs (v := .slice lA l.length lC) rfl rfl rfl (V.pure rfl) (fun a hf => ?_)
  refine S.val hf hs (v := .agg #[.int .i64 from_.X, .int .i64 from_.Y]) rfl rfl rfl (V.loadBox 0 rfl rfl rfl Try.isAgg24 Try.sizeOf24 rfl rfl) (fun a hf => ?_)
  refine S.call hf rfl rfl rfl (call_fn (vs := [.slice lA l.length lC, .agg #[.int .i64 from_.X, .int .i64 from_.Y]]) rfl rfl rfl Try.call15) (R_drill_Way l from_ _ lA lC ((Ag.args _ _ _).view hv_l hs) _ h) (fun v a w' hf hr => ?_)
  obtain ⟨y1, y2, rfl, h2, hs2⟩ := hr
  replace h := h2; replace hs := hs.call hs2; clear h2 hs2
  refine S.val hf hs (v := .tuple #[.int .i64 y1, .int .i64 y2]) rfl rfl rfl (V.pure rfl) (fun a hf => ?_)
  refine S.val hf hs (v := .int .i64 y1) rfl rfl rfl (V.pure rfl) (fun a hf => ?_)
  refine S.val hf hs (v := .int .i64 y2) rfl rfl rfl (V.pure rfl) (fun a hf => ?_)
  refine S.val hf hs (v := .int .i64 y1) rfl rfl rfl (V.pure rfl) (fun a hf => ?_)
  refine S.val hf hs (v := .int .i64 y2) rfl rfl rfl (V.pure rfl) (fun a hf => ?_)
  refine R.nil ?_
  refine X.then_ ?_
  refine wp_seq ?_
  refine R.list ?_
  refine S.val hf hs (v := .slice lA l.length lC) rfl rfl rfl (V.pure rfl) (fun a hf => ?_)
  refine S.val hf hs (v := .agg #[.int .i64 from_.X, .int .i64 from_.Y]) rfl rfl rfl (V.loadBox 0 rfl rfl rfl Try.isAgg24 Try.sizeOf24 rfl rfl) (fun a hf => ?_)
  refine S.call hf rfl rfl rfl (call_fn (vs := [.slice lA l.length lC, .agg #[.int .i64 from_.X, .int .i64 from_.Y]]) rfl rfl rfl Try.call16) (R_ref8_Way l from_ _ lA lC ((Ag.args _ _ _).view hv_l hs) _ h) (fun v a w' hf hr => ?_)
  obtain ⟨y3, y4, rfl, h2, hs2⟩ := hr
  replace h := h2; replace hs := hs.call hs2; clear h2 hs2
  refine S.val hf hs (v := .tuple #[.int .i64 y3, .int .i64 y4]) rfl rfl rfl (V.pure rfl) (fun a hf => ?_)
  refine S.val hf hs (v := .int .i64 y3) rfl rfl rfl (V.pure rfl) (fun a hf => ?_)
  refine S.val hf hs (v := .int .i64 y4) rfl rfl rfl (V.pure rfl) (fun a hf => ?_)
  refine S.val hf hs (v := .int .i64 y3) rfl rfl rfl (V.pure rfl) (fun a hf => ?_)
  refine S.val hf hs (v := .int .i64 y4) rfl rfl rfl (V.pure rfl) (fun a hf => ?_)
  refine R.nil ?_
  refine X.then_ ?_
  refine wp_seq ?_
  refine wp_seq ?_
  refine C.cut (J := fun a w => ∃ (c1 : Bool), M_law_Ways_k1 l from_ Q c1 ∧ FrOk 54 [(0, .slice lA l.length lC), (3, .pointer (some ⟨g1, 0, none⟩)), (30, .bool c1)] a ∧ Sat w0 none_ [hbox g1 24 [.int .i64 from_.X, .int .i64 from_.Y]] w) ?_ ?_
  · rintro a w ⟨c1, h, hf, hs⟩
    unfold M_law_Ways_k1 at h
    refine C.cond hf (b := c1) rfl (fun hc => ?_) (fun hc => ?_)
    · replace h := h.1 hc
      refine wp_seq ?_
      refine R.list ?_
      refine S.val hf hs (v := .bool false) rfl rfl rfl (V.pure rfl) (fun a hf => ?_)
      refine R.nil ?_
      refine X.then_ ?_
      refine wp_ret ?_
      refine X.then_ret ?_
      exact L.ret hf (run_results1 Try.results3 (ResIs.tmp hf rfl)) ⟨false, rfl, h, hs.nil⟩
    · replace h := h.2 hc
      refine wp_skip ?_
      refine X.then_ ?_
      refine wp_seq ?_
      refine R.list ?_
      refine S.val hf hs (v := .slice lA l.length lC) rfl rfl rfl (V.pure rfl) (fun a hf => ?_)
      refine S.val hf hs (v := .agg #[.int .i64 from_.X, .int .i64 from_.Y]) rfl rfl rfl (V.loadBox 0 rfl rfl rfl Try.isAgg24 Try.sizeOf24 rfl rfl) (fun a hf => ?_)
      refine S.call hf rfl rfl rfl (call_fn (vs := [.slice lA l.length lC, .agg #[.int .i64 from_.X, .int .i64 from_.Y]]) rfl rfl rfl Try.call17) (R_drill_Greedy l from_ _ lA lC ((Ag.args _ _ _).view hv_l hs) _ h) (fun v a w' hf hr => ?_)
      obtain ⟨y5, y5A, y5C, y6, rfl, h2, hs2⟩ := hr
      replace h := h2; replace hs := hs.call hs2; clear h2 hs2
      refine S.val hf hs (v := .tuple #[.slice y5A y5.length y5C, .int .i64 y6]) rfl rfl rfl (V.pure rfl) (fun a hf => ?_)
      refine S.val hf hs (v := .slice y5A y5.length y5C) rfl rfl rfl (V.pure rfl) (fun a hf => ?_)
      refine S.val hf hs (v := .int .i64 y6) rfl rfl rfl (V.pure rfl) (fun a hf => ?_)
      refine S.val hf hs (v := .slice y5A y5.length y5C) rfl rfl rfl (V.pure rfl) (fun a hf => ?_)
      refine S.val hf hs (v := .int .i64 y6) rfl rfl rfl (V.pure rfl) (fun a hf => ?_)
      refine R.nil ?_
      refine X.then_ ?_
      refine wp_seq ?_
      refine R.list ?_
      refine S.val hf hs (v := .slice lA l.length lC) rfl rfl rfl (V.pure rfl) (fun a hf => ?_)
      refine S.val hf hs (v := .agg #[.int .i64 from_.X, .int .i64 from_.Y]) rfl rfl rfl (V.loadBox 1 rfl rfl rfl Try.isAgg24 Try.sizeOf24 rfl rfl) (fun a hf => ?_)
      refine S.call hf rfl rfl rfl (call_fn (vs := [.slice lA l.length lC, .agg #[.int .i64 from_.X, .int .i64 from_.Y]]) rfl rfl rfl Try.call18) (R_ref8_Greedy l from_ _ lA lC ((Ag.args _ _ _).view hv_l hs) _ h) (fun v a w' hf hr => ?_)
      obtain ⟨y7, y7A, y7C, y8, rfl, h2, hs2⟩ := hr
      replace h := h2; replace hs := hs.call hs2; clear h2 hs2
      refine S.val hf hs (v := .tuple #[.slice y7A y7.length y7C, .int .i64 y8]) rfl rfl rfl (V.pure rfl) (fun a hf => ?_)
      refine S.val hf hs (v := .slice y7A y7.length y7C) rfl rfl rfl (V.pure rfl) (fun a hf => ?_)
      refine S.val hf hs (v := .int .i64 y8) rfl rfl rfl (V.pure rfl) (fun a hf => ?_)
      refine S.val hf hs (v := .slice y7A y7.length y7C) rfl rfl rfl (V.pure rfl) (fun a hf => ?_)
      refine S.val hf hs (v := .int .i64 y8) rfl rfl rfl (V.pure rfl) (fun a hf => ?_)
      refine R.nil ?_
      refine X.then_ ?_
      refine wp_seq ?_
      refine R.list ?_
      refine S.val hf hs (v := .int .i64 y6) rfl rfl rfl (V.pure rfl) (fun a hf => ?_)
      refine S.val hf hs (v := .int .i64 y8) rfl rfl rfl (V.pure rfl) (fun a hf => ?_)
      refine S.val hf hs (v := .bool (y6 == y8)) rfl rfl rfl (V.pure rfl) (fun a hf => ?_)
      refine S.split hf hs (b := y6 == y8) rfl rfl rfl (V.pure rfl) (fun hc a hf => ?_) (fun hc a hf => ?_)
      · replace h := h.1 hc
        refine S.val hf hs (v := .slice y5A y5.length y5C) rfl rfl rfl (V.pure rfl) (fun a hf => ?_)
        refine S.val hf hs (v := .slice y7A y7.length y7C) rfl rfl rfl (V.pure rfl) (fun a hf => ?_)
        refine S.call hf rfl rfl rfl (call_fn (vs := [.slice y5A y5.length y5C, .slice y7A y7.length y7C]) rfl rfl rfl Try.call19) (R_equal_int y5 y7 _ y5A y5C (hs.ownView 1 rfl) y7A y7C (hs.ownView 0 rfl) _ h) (fun v a w' hf hr => ?_)
        obtain ⟨y9, rfl, h2, hs2⟩ := hr
        replace h := h2; replace hs := hs.call hs2; clear h2 hs2
        refine S.val hf hs (v := .bool y9) rfl rfl rfl (V.pure rfl) (fun a hf => ?_)
        refine S.split hf hs (b := y9) rfl rfl rfl (V.pure rfl) (fun hc a hf => ?_) (fun hc a hf => ?_)
        · replace h := h.1 hc
          refine S.call hf rfl rfl rfl (call_fn (vs := []) rfl rfl rfl Try.call20) (R_awake  _  _ h) (fun v a w' hf hr => ?_)
          obtain ⟨y10, rfl, h2, hs2⟩ := hr
          replace h := h2; replace hs := hs.call hs2; clear h2 hs2
          refine S.val hf hs (v := .bool y10) rfl rfl rfl (V.pure rfl) (fun a hf => ?_)
          refine S.val hf hs (v := .bool y10) rfl rfl rfl (V.pure rfl) (fun a hf => ?_)
          refine R.nil ?_
          refine X.then_ ?_
          refine wp_ret ?_
          exact L.ret hf (run_results1 Try.results3 (ResIs.tmp hf rfl)) ⟨y10, rfl, h, hs.nil⟩
        · replace h := h.2 hc
          refine S.skip hf rfl rfl rfl (fun a hf => ?_)
          refine S.val hf hs (v := .bool false) rfl rfl rfl (V.pure rfl) (fun a hf => ?_)
          refine S.val hf hs (v := .bool false) rfl rfl rfl (V.pure rfl) (fun a hf => ?_)
          refine R.nil ?_
          refine X.then_ ?_
          refine wp_ret ?_
          exact L.ret hf (run_results1 Try.results3 (ResIs.tmp hf rfl)) ⟨false, rfl, h, hs.nil⟩
      · replace h := h.2 hc
        refine S.skip hf rfl rfl rfl (fun a hf => ?_)
        refine S.skip hf rfl rfl rfl (fun a hf => ?_)
        refine S.skip hf rfl rfl rfl (fun a hf => ?_)
        refine S.val hf hs (v := .bool false) rfl rfl rfl (V.pure rfl) (fun a hf => ?_)
        refine S.val hf hs (v := .bool false) rfl rfl rfl (V.pure rfl) (fun a hf => ?_)
        refine S.skip hf rfl rfl rfl (fun a hf => ?_)
        refine S.val hf hs (v := .bool false) rfl rfl rfl (V.pure rfl) (fun a hf => ?_)
        refine S.val hf hs (v := .bool false) rfl rfl rfl (V.pure rfl) (fun a hf => ?_)
        refine R.nil ?_
        refine X.then_ ?_
        refine wp_ret ?_
        exact L.ret hf (run_results1 Try.results3 (ResIs.tmp hf rfl)) ⟨false, rfl, h, hs.nil⟩
  · skip
    refine R.list ?_
    refine S.val hf hs (v := .int .i64 y2) rfl rfl rfl (V.pure rfl) (fun a hf => ?_)
    refine S.val hf hs (v := .int .i64 y4) rfl rfl rfl (V.pure rfl) (fun a hf => ?_)
    refine S.val hf hs (v := .bool (y2 != y4)) rfl rfl rfl (V.pure rfl) (fun a hf => ?_)
    refine S.split hf hs (b := y2 != y4) rfl rfl rfl (V.pure rfl) (fun hc a hf => ?_) (fun hc a hf => ?_)
    · replace h := h.1 hc
      refine S.skip hf rfl rfl rfl (fun a hf => ?_)
      refine S.skip hf rfl rfl rfl (fun a hf => ?_)
      refine S.skip hf rfl rfl rfl (fun a hf => ?_)
      refine S.val hf hs (v := .bool true) rfl rfl rfl (V.pure rfl) (fun a hf => ?_)
      refine R.nil ?_
      refine X.then_ ?_
      exact ⟨true, h, (((hf.nil.cons (hf.get 30 _ rfl)).cons (hf.get 3 _ rfl)).cons (hf.get 0 _ rfl)), hs⟩
    · replace h := h.2 hc
      refine S.val hf hs (v := .int .i64 y1) rfl rfl rfl (V.pure rfl) (fun a hf => ?_)
      refine S.val hf hs (v := .int .i64 y3) rfl rfl rfl (V.pure rfl) (fun a hf => ?_)
      refine S.val hf hs (v := .bool (y1 != y3)) rfl rfl rfl (V.pure rfl) (fun a hf => ?_)
      refine S.val hf hs (v := .bool (y1 != y3)) rfl rfl rfl (V.pure rfl) (fun a hf => ?_)
      refine R.nil ?_
      refine X.then_ ?_
      exact ⟨(y1 != y3), h, (((hf.nil.cons (hf.get 30 _ rfl)).cons (hf.get 3 _ rfl)).cons (hf.get 0 _ rfl)), hs⟩

end Go.Proofs.Ytmopdabkfklefaa

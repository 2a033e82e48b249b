/- Chapter 10: loads divided between two machines: the walks. -/
import Derived.Test.YtcmlcgjjkccaeaaTypes
namespace Go.Proofs.Ytcmlcgjjkccaeaa
open Go Go.RowKit
set_option linter.unusedVariables false

def within (n lo hi : Int) : Bool := decide (lo ≤ n) && decide (n ≤ hi)
set_option linter.unusedVariables false
def M_mount_within (n : Int) (lo : Int) (hi : Int) (Q : Bool → Prop) : Prop :=
  cnd (decide (n ≥ lo)) (Q (decide (n ≤ hi))) (Q false)
set_option maxHeartbeats 1000000 in
theorem R_mount_within (n : Int) (lo : Int) (hi : Int) (w0 : World)  (Q : Bool → Prop) (h : M_mount_within n lo hi Q) :
    Ret Try.prog 17 #[.int .i64 n, .int .i64 lo, .int .i64 hi] w0 fun v w' => ∃ (r0 : Bool), v = .bool r0 ∧ Q r0 ∧ Sat w0 none_ [] w' := by
  refine fn_enter Try.func17 rfl Try.ntmps17 rfl (fs := [(0, .int .i64 n), (1, .int .i64 lo), (2, .int .i64 hi)]) rfl (fun a hf => ?_)
  have hs := Sat.start w0 none_
  unfold M_mount_within at h
  refine wp_seq ?_
  refine R.list ?_
  refine S.val hf hs (v := .bool false) rfl rfl rfl (V.pure rfl) (fun a hf => ?_)
  refine R.nil ?_
  refine X.then_ ?_
  refine wp_seq ?_
  refine R.list ?_
  refine S.val hf hs (v := .int .i64 n) rfl rfl rfl (V.pure rfl) (fun a hf => ?_)
  refine S.val hf hs (v := .int .i64 lo) rfl rfl rfl (V.pure rfl) (fun a hf => ?_)
  refine S.val hf hs (v := .bool (decide (n ≥ lo))) rfl rfl rfl (V.pure rfl) (fun a hf => ?_)
  refine S.split hf hs (b := decide (n ≥ lo)) rfl rfl rfl (V.pure rfl) (fun hc a hf => ?_) (fun hc a hf => ?_)
  · replace h := h.1 hc
    refine S.val hf hs (v := .int .i64 n) rfl rfl rfl (V.pure rfl) (fun a hf => ?_)
    refine S.val hf hs (v := .int .i64 hi) rfl rfl rfl (V.pure rfl) (fun a hf => ?_)
    refine S.val hf hs (v := .bool (decide (n ≤ hi))) rfl rfl rfl (V.pure rfl) (fun a hf => ?_)
    refine S.val hf hs (v := .bool (decide (n ≤ hi))) rfl rfl rfl (V.pure rfl) (fun a hf => ?_)
    refine S.val hf hs (v := .bool (decide (n ≤ hi))) rfl rfl rfl (V.pure rfl) (fun a hf => ?_)
    refine R.nil ?_
    refine X.then_ ?_
    refine wp_ret ?_
    exact L.ret hf (run_results1 Try.results17 (ResIs.tmp hf rfl)) ⟨(decide (n ≤ hi)), rfl, h, hs.nil⟩
  · replace h := h.2 hc
    refine S.skip hf rfl rfl rfl (fun a hf => ?_)
    refine S.skip hf rfl rfl rfl (fun a hf => ?_)
    refine S.skip hf rfl rfl rfl (fun a hf => ?_)
    refine S.val hf hs (v := .bool false) rfl rfl rfl (V.pure rfl) (fun a hf => ?_)
    refine S.val hf hs (v := .bool false) rfl rfl rfl (V.pure rfl) (fun a hf => ?_)
    refine R.nil ?_
    refine X.then_ ?_
    refine wp_ret ?_
    exact L.ret hf (run_results1 Try.results17 (ResIs.tmp hf rfl)) ⟨false, rfl, h, hs.nil⟩

theorem E_mount_within (n lo hi : Int) : M_mount_within n lo hi (· = within n lo hi) := by
  unfold M_mount_within within; constructor <;> intro h <;> simp_all <;> omega
theorem C_mount_within (n : Int) (lo : Int) (hi : Int) (w0 : World)  : Ret Try.prog 17 #[.int .i64 n, .int .i64 lo, .int .i64 hi] w0 fun v w' => v = .bool (within n lo hi) ∧ Sat w0 none_ [] w' :=
  (R_mount_within n lo hi w0  (· = (within n lo hi)) (E_mount_within n lo hi)).mono fun v w' ⟨r0, hv, hr, hs⟩ => ⟨by subst hr; exact hv, hs⟩

set_option linter.unusedVariables false
def M_ref10_within (n : Int) (lo : Int) (hi : Int) (Q : Bool → Prop) : Prop :=
  cnd (decide (lo ≤ n)) (Q (decide (n ≤ hi))) (Q false)
set_option maxHeartbeats 1000000 in
theorem R_ref10_within (n : Int) (lo : Int) (hi : Int) (w0 : World)  (Q : Bool → Prop) (h : M_ref10_within n lo hi Q) :
    Ret Try.prog 20 #[.int .i64 n, .int .i64 lo, .int .i64 hi] w0 fun v w' => ∃ (r0 : Bool), v = .bool r0 ∧ Q r0 ∧ Sat w0 none_ [] w' := by
  refine fn_enter Try.func20 rfl Try.ntmps20 rfl (fs := [(0, .int .i64 n), (1, .int .i64 lo), (2, .int .i64 hi)]) rfl (fun a hf => ?_)
  have hs := Sat.start w0 none_
  unfold M_ref10_within at h
  refine wp_seq ?_
  refine R.list ?_
  refine S.val hf hs (v := .bool false) rfl rfl rfl (V.pure rfl) (fun a hf => ?_)
  refine R.nil ?_
  refine X.then_ ?_
  refine wp_seq ?_
  refine R.list ?_
  refine S.val hf hs (v := .int .i64 lo) rfl rfl rfl (V.pure rfl) (fun a hf => ?_)
  refine S.val hf hs (v := .int .i64 n) rfl rfl rfl (V.pure rfl) (fun a hf => ?_)
  refine S.val hf hs (v := .bool (decide (lo ≤ n))) rfl rfl rfl (V.pure rfl) (fun a hf => ?_)
  refine S.split hf hs (b := decide (lo ≤ n)) rfl rfl rfl (V.pure rfl) (fun hc a hf => ?_) (fun hc a hf => ?_)
  · replace h := h.1 hc
    refine S.val hf hs (v := .int .i64 n) rfl rfl rfl (V.pure rfl) (fun a hf => ?_)
    refine S.val hf hs (v := .int .i64 hi) rfl rfl rfl (V.pure rfl) (fun a hf => ?_)
    refine S.val hf hs (v := .bool (decide (n ≤ hi))) rfl rfl rfl (V.pure rfl) (fun a hf => ?_)
    refine S.val hf hs (v := .bool (decide (n ≤ hi))) rfl rfl rfl (V.pure rfl) (fun a hf => ?_)
    refine S.val hf hs (v := .bool (decide (n ≤ hi))) rfl rfl rfl (V.pure rfl) (fun a hf => ?_)
    refine R.nil ?_
    refine X.then_ ?_
    refine wp_ret ?_
    exact L.ret hf (run_results1 Try.results20 (ResIs.tmp hf rfl)) ⟨(decide (n ≤ hi)), rfl, h, hs.nil⟩
  · replace h := h.2 hc
    refine S.skip hf rfl rfl rfl (fun a hf => ?_)
    refine S.skip hf rfl rfl rfl (fun a hf => ?_)
    refine S.skip hf rfl rfl rfl (fun a hf => ?_)
    refine S.val hf hs (v := .bool false) rfl rfl rfl (V.pure rfl) (fun a hf => ?_)
    refine S.val hf hs (v := .bool false) rfl rfl rfl (V.pure rfl) (fun a hf => ?_)
    refine R.nil ?_
    refine X.then_ ?_
    refine wp_ret ?_
    exact L.ret hf (run_results1 Try.results20 (ResIs.tmp hf rfl)) ⟨false, rfl, h, hs.nil⟩

theorem E_ref10_within (n lo hi : Int) : M_ref10_within n lo hi (· = within n lo hi) := by
  unfold M_ref10_within within; constructor <;> intro h <;> simp_all <;> omega
theorem C_ref10_within (n : Int) (lo : Int) (hi : Int) (w0 : World)  : Ret Try.prog 20 #[.int .i64 n, .int .i64 lo, .int .i64 hi] w0 fun v w' => v = .bool (within n lo hi) ∧ Sat w0 none_ [] w' :=
  (R_ref10_within n lo hi w0  (· = (within n lo hi)) (E_ref10_within n lo hi)).mono fun v w' ⟨r0, hv, hr, hs⟩ => ⟨by subst hr; exact hv, hs⟩

set_option linter.unusedVariables false
def M_clone_bool (s_ : (List Bool)) (Q : (List Bool) → Prop) : Prop :=
  nilq s_ fun b1 => cnd b1 (Q ([] : List Bool)) (must (room (([] : List Bool) ++ s_).length 1) (Q (([] : List Bool) ++ s_)))
set_option maxHeartbeats 1000000 in
theorem R_clone_bool (s_ : (List Bool)) (w0 : World) (s_A : Option Addr) (s_C : Nat) (hv_s_ : View w0 (old w0 none_) s_A s_C s_) (Q : (List Bool) → Prop) (h : M_clone_bool s_ Q) :
    Ret Try.prog 18 #[.slice s_A s_.length s_C] w0 fun v w' => ∃ (r0 : (List Bool)) (r0A : Option Addr) (r0C : Nat), v = .slice r0A r0.length r0C ∧ Q r0 ∧ Sat w0 none_ [hown 4 r0A r0C r0] w' := by
  refine fn_enter Try.func18 rfl Try.ntmps18 rfl (fs := [(0, .slice s_A s_.length s_C)]) rfl (fun a hf => ?_)
  have hs := Sat.start w0 none_
  unfold M_clone_bool at h
  refine wp_seq ?_
  refine R.list ?_
  refine S.val hf hs (v := .slice none 0 0) rfl rfl rfl (V.pure rfl) (fun a hf => ?_)
  refine R.nil ?_
  refine X.then_ ?_
  refine wp_seq ?_
  refine wp_seq ?_
  refine R.list ?_
  refine S.val hf hs (v := .slice s_A s_.length s_C) rfl rfl rfl (V.pure rfl) (fun a hf => ?_)
  obtain ⟨b1, hb1⟩ : ∃ b : Bool, b = Option.isNone s_A := ⟨_, rfl⟩
  replace h := h b1 (fun e => ((Ag.args _ _ _).view hv_s_ hs).nil_of (hb1.symm.trans e))
  refine S.val hf hs (v := .bool b1) rfl rfl rfl (V.eqNil b1 rfl rfl rfl Try.underlying29 (by kernel_rfl) hb1) (fun a hf => ?_)
  refine R.nil ?_
  refine X.then_ ?_
  refine C.cond hf (b := b1) rfl (fun hc => ?_) (fun hc => ?_)
  · replace h := h.1 hc
    refine wp_seq ?_
    refine R.list ?_
    refine S.val hf hs (v := .slice none 0 0) rfl rfl rfl (V.pure rfl) (fun a hf => ?_)
    refine R.nil ?_
    refine X.then_ ?_
    refine wp_ret ?_
    refine X.then_ret ?_
    replace hs := hs.nilOwn (α := Bool) 4
    replace hs := hs.take 1
    exact L.ret hf (run_results1 Try.results18 (ResIs.tmp hf rfl)) ⟨([] : List Bool), none, 0, rfl, h, hs⟩
  · replace h := h.2 hc
    refine wp_skip ?_
    refine X.then_ ?_
    refine wp_seq ?_
    refine R.list ?_
    refine S.buildEmpty (α := Bool) hf hs rfl rfl rfl rfl Try.runUnderlying29 Try.sizeOf4 (fun A1 a w hf hs => ?_)
    refine S.val hf hs (v := .slice s_A s_.length s_C) rfl rfl rfl (V.pure rfl) (fun a hf => ?_)
    obtain ⟨hroom, h⟩ := h
    refine S.appendAny 0 hf hs rfl rfl rfl rfl rfl rfl rfl Try.underlying29 info4 rfl hroom ((Ag.args _ _ _).view hv_s_ hs) (fun A2 C1 a w hf hs => ?_)
    refine S.val hf hs (v := .slice A2 (([] : List Bool) ++ s_).length C1) rfl rfl rfl (V.pure rfl) (fun a hf => ?_)
    refine R.nil ?_
    refine X.then_ ?_
    refine wp_ret ?_
    replace hs := hs.take 1
    exact L.ret hf (run_results1 Try.results18 (ResIs.tmp hf rfl)) ⟨(([] : List Bool) ++ s_), A2, C1, rfl, h, hs⟩

set_option linter.unusedVariables false
def M_Balanced1_k2 (Q : Bool → Prop) (next1 : Prop) (c1 : Bool) : Prop :=
  cnd c1 (Q true) (next1)
def M_Balanced1_L1 (sum : Int) (can : (List (List Bool))) (i : Int) (Q : Bool → Prop) (k1 : Nat) (xk1 : Int)  (next1 : Prop) : Prop :=
  cnd (decide (xk1 ≥ sum)) (idx can (w64 (i + 1)) fun x1 => idx x1 (w64 (xk1 - sum)) fun x2 => M_Balanced1_k2 Q next1 x2) (M_Balanced1_k2 Q next1 false)
def M_Balanced1 (sum : Int) (best : Int) (all : Int) (can : (List (List Bool))) (i : Int) (Q : Bool → Prop) : Prop :=
  forIn' (fun k x (s : Unit) next => M_Balanced1_L1 sum can i Q k x (next ())) (fun (s : Unit) => Q false) ([best, w64 (all - best)] : List Int) 0 ()
set_option maxHeartbeats 1000000 in
theorem R_Balanced1 (sum : Int) (best : Int) (all : Int) (can : (List (List Bool))) (i : Int) (w0 : World) (bestg : Nat) (hb_best : ElemAt w0 (old w0 none_) (some ⟨bestg, 0, none⟩) 0 [.int .i64 best]) (allg : Nat) (hb_all : ElemAt w0 (old w0 none_) (some ⟨allg, 0, none⟩) 0 [.int .i64 all]) (canA : Option Addr) (canC : Nat) (hv_can : View w0 (old w0 none_) canA canC can) (cang : Nat) (hb_can : ElemAt w0 (old w0 none_) (some ⟨cang, 0, none⟩) 0 [.slice canA can.length canC]) (ig : Nat) (hb_i : ElemAt w0 (old w0 none_) (some ⟨ig, 0, none⟩) 0 [.int .i64 i]) (Q : Bool → Prop) (h : M_Balanced1 sum best all can i Q) :
    Ret Try.prog 19 #[.int .i64 sum, .pointer (some ⟨bestg, 0, none⟩), .pointer (some ⟨allg, 0, none⟩), .pointer (some ⟨cang, 0, none⟩), .pointer (some ⟨ig, 0, none⟩)] w0 fun v w' => ∃ (r0 : Bool), v = .bool r0 ∧ Q r0 ∧ Sat w0 none_ [] w' := by
  refine fn_enter Try.func19 rfl Try.ntmps19 rfl (fs := [(0, .int .i64 sum), (1, .pointer (some ⟨bestg, 0, none⟩)), (2, .pointer (some ⟨allg, 0, none⟩)), (3, .pointer (some ⟨cang, 0, none⟩)), (4, .pointer (some ⟨ig, 0, none⟩))]) rfl (fun a hf => ?_)
  have hs := Sat.start w0 none_
  unfold M_Balanced1 at h
  refine wp_seq ?_
  refine R.list ?_
  refine S.val hf hs (v := .bool false) rfl rfl rfl (V.pure rfl) (fun a hf => ?_)
  refine R.nil ?_
  refine X.then_ ?_
  refine wp_seq ?_
  refine wp_seq ?_
  refine R.list ?_
  refine S.val hf hs (v := .int .i64 best) rfl rfl rfl (V.loadAt0 (off := 0) (Ag.args _ _ _) hb_best rfl rfl Try.isAgg3 Try.sizeOf3 rfl rfl) (fun a hf => ?_)
  refine S.val hf hs (v := .int .i64 all) rfl rfl rfl (V.loadAt0 (off := 0) (Ag.args _ _ _) hb_all rfl rfl Try.isAgg3 Try.sizeOf3 rfl rfl) (fun a hf => ?_)
  refine S.val hf hs (v := .int .i64 best) rfl rfl rfl (V.loadAt0 (off := 0) (Ag.args _ _ _) hb_best rfl rfl Try.isAgg3 Try.sizeOf3 rfl rfl) (fun a hf => ?_)
  refine S.val hf hs (v := .int .i64 (w64 (all - best))) rfl rfl rfl (V.pure rfl) (fun a hf => ?_)
  refine S.buildSlice hf hs rfl rfl rfl (α := Int) [best, w64 (all - best)] rfl rfl Try.runUnderlying22 Try.sizeOf3 Try.zeroValue3 (by kernel_rfl) rfl (by decide) (by decide) (fun A1 a w hf hs => ?_)
  refine S.val hf hs (v := .int .i64 (([best, w64 (all - best)] : List Int).length : Int)) rfl rfl rfl (V.len rfl rfl Try.runUnderlying22) (fun a hf => ?_)
  refine S.val hf hs (v := .int .i64 0) rfl rfl rfl (V.pure rfl) (fun a hf => ?_)
  refine R.nil ?_
  refine X.then_ ?_
  refine wp_block ?_
  have hlenk1 := (hs.ownView 0 rfl).len64
  refine C.range (fun (ll : List Int) a w => ∃ (k1 : Nat) , ([best, w64 (all - best)] : List Int).drop k1 = ll ∧ k1 + ll.length = ([best, w64 (all - best)] : List Int).length ∧ forIn' (fun k x (s : Unit) next => M_Balanced1_L1 sum can i Q k x (next ())) (fun (s : Unit) => Q false) ll k1 () ∧ FrOk 35 [(15, .int .i64 (k1 : Int)), (0, .int .i64 sum), (3, .pointer (some ⟨cang, 0, none⟩)), (4, .pointer (some ⟨ig, 0, none⟩)), (13, .slice A1 ([best, w64 (all - best)] : List Int).length 2), (14, .int .i64 (([best, w64 (all - best)] : List Int).length : Int))] a ∧ Sat w0 none_ [hown 3 A1 2 ([best, w64 (all - best)] : List Int)] w) ([best, w64 (all - best)] : List Int) ⟨0, rfl, Nat.zero_add _, h, ((((((hf.nil.cons (hf.get 14 _ rfl)).cons (hf.get 13 _ rfl)).cons (hf.get 4 _ rfl)).cons (hf.get 3 _ rfl)).cons (hf.get 0 _ rfl)).cons (hf.get 15 _ rfl)), hs⟩ ?_
  clear h hf hs
  rintro llk1 a w ⟨k1, hlk1, hkk1, h, hf, hs⟩
  cases llk1 with
  | nil =>
    have hc := range_done hkk1
    replace h : Q false := h
    refine wp_seq ?_
    refine R.list ?_
    refine S.val hf hs (v := .bool false) rfl rfl rfl (V.cmp false rfl rfl rfl rfl hc) (fun a hf => ?_)
    refine R.nil ?_
    refine X.then_ ?_
    refine wp_seq ?_
    refine C.no hf rfl ?_
    refine wp_exit ?_
    refine X.then_exit ?_
    refine X.then_exit ?_
    refine X.blk_exit ?_
    refine X.then_ ?_
    refine wp_seq ?_
    refine R.list ?_
    refine S.val hf hs (v := .bool false) rfl rfl rfl (V.pure rfl) (fun a hf => ?_)
    refine R.nil ?_
    refine X.then_ ?_
    refine wp_ret ?_
    exact L.ret hf (run_results1 Try.results19 (ResIs.tmp hf rfl)) ⟨false, rfl, h, hs.nil⟩
  | cons xk1 llk1 =>
    have hltk1 := range_lt hkk1; have hc := range_go hkk1; have hxk1 := range_get hlk1
    obtain ⟨next1, hnext1⟩ : ∃ X : Prop, X = (forIn' (fun k x (s : Unit) next => M_Balanced1_L1 sum can i Q k x (next ())) (fun (s : Unit) => Q false) llk1 (k1 + 1) ()) := ⟨_, rfl⟩
    replace h : M_Balanced1_L1 sum can i Q k1 xk1  next1 := by rw [hnext1]; exact h
    unfold M_Balanced1_L1 at h
    refine wp_seq ?_
    refine R.list ?_
    refine S.val hf hs (v := .bool true) rfl rfl rfl (V.cmp true rfl rfl rfl rfl hc) (fun a hf => ?_)
    refine R.nil ?_
    refine X.then_ ?_
    refine wp_seq ?_
    refine C.yes hf rfl ?_
    refine wp_skip ?_
    refine X.then_ ?_
    refine wp_seq ?_
    refine wp_block ?_
    refine wp_seq ?_
    refine R.list ?_
    refine S.val hf hs (v := elemPtr A1 (k1 * 1)) rfl rfl rfl (V.index rfl rfl rfl Try.runUnderlying22 Try.sizeOf3 (hs.ownSome 0 rfl (lt_of_get hxk1)) (Int.natCast_nonneg _) (lt_of_get hxk1) rfl) (fun a hf => ?_)
    refine S.val hf hs (v := .int .i64 xk1) rfl rfl rfl (V.loadOwn (off := 0) 0 rfl hxk1 rfl rfl rfl Try.isAgg3 Try.sizeOf3 rfl rfl) (fun a hf => ?_)
    refine S.val hf hs (v := .int .i64 xk1) rfl rfl rfl (V.pure rfl) (fun a hf => ?_)
    refine R.nil ?_
    refine X.then_ ?_
    refine wp_seq ?_
    refine C.cut (J := fun a w => ∃ (c1 : Bool), M_Balanced1_k2 Q next1 c1 ∧ FrOk 35 [(0, .int .i64 sum), (3, .pointer (some ⟨cang, 0, none⟩)), (4, .pointer (some ⟨ig, 0, none⟩)), (13, .slice A1 ([best, w64 (all - best)] : List Int).length 2), (14, .int .i64 (([best, w64 (all - best)] : List Int).length : Int)), (15, .int .i64 (k1 : Int)), (33, .bool c1)] a ∧ Sat w0 none_ [hown 3 A1 2 ([best, w64 (all - best)] : List Int)] w) ?_ ?_
    · rintro a w ⟨c1, h, hf, hs⟩
      unfold M_Balanced1_k2 at h
      refine C.cond hf (b := c1) rfl (fun hc => ?_) (fun hc => ?_)
      · replace h := h.1 hc
        refine wp_seq ?_
        refine R.list ?_
        refine S.val hf hs (v := .bool true) rfl rfl rfl (V.pure rfl) (fun a hf => ?_)
        refine R.nil ?_
        refine X.then_ ?_
        refine wp_ret ?_
        refine X.blk_ret ?_
        refine X.then_ret ?_
        refine X.then_ret ?_
        refine X.blk_ret ?_
        refine X.then_ret ?_
        exact L.ret hf (run_results1 Try.results19 (ResIs.tmp hf rfl)) ⟨true, rfl, h, hs.nil⟩
      · replace h := h.2 hc
        refine wp_skip ?_
        refine X.blk ?_
        refine X.then_ ?_
        refine R.list ?_
        refine S.val hf hs (v := .int .i64 ((k1 + 1 : Nat) : Int)) rfl rfl rfl (V.incr rfl rfl rfl hltk1 hlenk1) (fun a hf => ?_)
        refine S.val hf hs (v := .int .i64 ((k1 + 1 : Nat) : Int)) rfl rfl rfl (V.pure rfl) (fun a hf => ?_)
        refine R.nil ?_
        refine X.then_ ?_
        exact ⟨xk1, llk1, rfl, k1 + 1, range_drop hlk1, range_len hkk1, (by rw [hnext1] at h; exact h), ((((((hf.nil.cons (hf.get 14 _ rfl)).cons (hf.get 13 _ rfl)).cons (hf.get 4 _ rfl)).cons (hf.get 3 _ rfl)).cons (hf.get 0 _ rfl)).cons (hf.get 15 _ rfl)), hs⟩
    · skip
      refine R.list ?_
      refine S.val hf hs (v := .int .i64 xk1) rfl rfl rfl (V.pure rfl) (fun a hf => ?_)
      refine S.val hf hs (v := .int .i64 sum) rfl rfl rfl (V.pure rfl) (fun a hf => ?_)
      refine S.val hf hs (v := .bool (decide (xk1 ≥ sum))) rfl rfl rfl (V.pure rfl) (fun a hf => ?_)
      refine S.split hf hs (b := decide (xk1 ≥ sum)) rfl rfl rfl (V.pure rfl) (fun hc a hf => ?_) (fun hc a hf => ?_)
      · replace h := h.1 hc
        refine S.val hf hs (v := .slice canA can.length canC) rfl rfl rfl (V.loadAt0 (off := 0) (Ag.args _ _ _) hb_can rfl rfl Try.isAgg39 Try.sizeOf39 rfl rfl) (fun a hf => ?_)
        refine S.val hf hs (v := .int .i64 i) rfl rfl rfl (V.loadAt0 (off := 0) (Ag.args _ _ _) hb_i rfl rfl Try.isAgg3 Try.sizeOf3 rfl rfl) (fun a hf => ?_)
        refine S.val hf hs (v := .int .i64 (w64 (i + 1))) rfl rfl rfl (V.pure rfl) (fun a hf => ?_)
        obtain ⟨h0x1, x1, hx1, h⟩ := h
        obtain ⟨cs1, he1, hr1⟩ := hv_can.at_ _ _ hx1
        obtain ⟨u1A, u1C, rfl, hvu1⟩ := hr1
        refine S.val hf hs (v := elemPtr canA ((w64 (i + 1)).toNat * 1)) rfl rfl rfl (V.index rfl rfl rfl Try.runUnderlying39 Try.sizeOf29 (hv_can.some_ (lt_of_get hx1)) h0x1 (lt_of_get hx1) rfl) (fun a hf => ?_)
        refine S.val hf hs (v := .slice u1A x1.length u1C) rfl rfl rfl (V.loadEl (off := 0) (Ag.args _ _ _) he1 rfl rfl rfl Try.isAgg29 Try.sizeOf29 rfl rfl) (fun a hf => ?_)
        refine S.val hf hs (v := .int .i64 xk1) rfl rfl rfl (V.pure rfl) (fun a hf => ?_)
        refine S.val hf hs (v := .int .i64 sum) rfl rfl rfl (V.pure rfl) (fun a hf => ?_)
        refine S.val hf hs (v := .int .i64 (w64 (xk1 - sum))) rfl rfl rfl (V.pure rfl) (fun a hf => ?_)
        obtain ⟨h0x2, x2, hx2, h⟩ := h
        refine S.val hf hs (v := elemPtr u1A ((w64 (xk1 - sum)).toNat * 1)) rfl rfl rfl (V.index rfl rfl rfl Try.runUnderlying29 Try.sizeOf4 (hvu1.some_ (lt_of_get hx2)) h0x2 (lt_of_get hx2) rfl) (fun a hf => ?_)
        refine S.val hf hs (v := .bool x2) rfl rfl rfl (V.loadEl (off := 0) (Ag.args _ _ _) (hvu1.flat hx2) rfl rfl rfl Try.isAgg4 Try.sizeOf4 rfl rfl) (fun a hf => ?_)
        refine S.val hf hs (v := .bool x2) rfl rfl rfl (V.pure rfl) (fun a hf => ?_)
        refine R.nil ?_
        refine X.then_ ?_
        exact ⟨x2, h, (((((((hf.nil.cons (hf.get 33 _ rfl)).cons (hf.get 15 _ rfl)).cons (hf.get 14 _ rfl)).cons (hf.get 13 _ rfl)).cons (hf.get 4 _ rfl)).cons (hf.get 3 _ rfl)).cons (hf.get 0 _ rfl)), hs⟩
      · replace h := h.2 hc
        refine S.skip hf rfl rfl rfl (fun a hf => ?_)
        refine S.skip hf rfl rfl rfl (fun a hf => ?_)
        refine S.skip hf rfl rfl rfl (fun a hf => ?_)
        refine S.skip hf rfl rfl rfl (fun a hf => ?_)
        refine S.skip hf rfl rfl rfl (fun a hf => ?_)
        refine S.skip hf rfl rfl rfl (fun a hf => ?_)
        refine S.skip hf rfl rfl rfl (fun a hf => ?_)
        refine S.skip hf rfl rfl rfl (fun a hf => ?_)
        refine S.skip hf rfl rfl rfl (fun a hf => ?_)
        refine S.skip hf rfl rfl rfl (fun a hf => ?_)
        refine S.val hf hs (v := .bool false) rfl rfl rfl (V.pure rfl) (fun a hf => ?_)
        refine R.nil ?_
        refine X.then_ ?_
        exact ⟨false, h, (((((((hf.nil.cons (hf.get 33 _ rfl)).cons (hf.get 15 _ rfl)).cons (hf.get 14 _ rfl)).cons (hf.get 13 _ rfl)).cons (hf.get 4 _ rfl)).cons (hf.get 3 _ rfl)).cons (hf.get 0 _ rfl)), hs⟩

set_option linter.unusedVariables false
def M_mount_Balanced_L3 (b2 : Int) (n2 : Int) (again2 : List (List Bool) → Int → Prop) (x5 : Int) (again3 : List (List Bool) → Int → Prop) (l4 : List (List Bool)) (n4 : Int) : Prop :=
  cnd (decide (n4 ≤ b2)) (idx l4 n2 fun x6 => idx x6 n4 fun x7 => cnd x7 (again3 (l4.set n2.toNat (x6.set n4.toNat true)) (w64 (n4 + 1))) (idx l4 (w64 (n2 + 1)) fun x8 => idx x8 (w64 (n4 - x5)) fun x9 => again3 (l4.set n2.toNat (x6.set n4.toNat x9)) (w64 (n4 + 1)))) (again2 l4 (w64 (n2 - 1)))
def M_mount_Balanced_k6 (b6 : Int) (again5 : List Int → Int → Int → Prop) (l7 : List Int) (n9 : Int) : Prop :=
  again5 l7 (w64 (b6 + 1)) n9
def M_mount_Balanced_L5 (loads : (List Int)) (Q : (List Int) → Int → Int → Prop) (b2 : Int) (l2 : List (List Bool)) (b4 : Int) (again5 : List Int → Int → Int → Prop) (l6 : List Int) (b6 : Int) (n8 : Int) : Prop :=
  cnd ((max n8 (w64 (b2 - n8))) != b4) (idx loads b6 fun x13 => M_Balanced1 (w64 (n8 + x13)) b4 b2 l2 b6 fun y2 => cnd y2 (must (room (l6 ++ [b6]).length 8) (M_mount_Balanced_k6 b6 again5 (l6 ++ [b6]) (w64 (n8 + x13)))) (M_mount_Balanced_k6 b6 again5 l6 n8)) (Q l6 b4 0)
def M_mount_Balanced_L4 (loads : (List Int)) (Q : (List Int) → Int → Int → Prop) (b2 : Int) (l2 : List (List Bool)) (x10 : Int) (again4 : Int → Int → Prop) (b4 : Int) (n6 : Int) : Prop :=
  cnd (decide (n6 ≤ b2)) (idx l2 1 fun x11 => idx x11 (w64 (n6 - x10)) fun x12 => cnd x12 (again4 (min b4 (max n6 (w64 (b2 - n6)))) (w64 (n6 + 1))) (again4 b4 (w64 (n6 + 1)))) (lp (fun again (s : List Int × Int × Int) => M_mount_Balanced_L5 loads Q b2 l2 b4 (fun l6 b6 n8 => again (l6, b6, n8)) s.1 s.2.1 s.2.2) ([0], 1, x10))
def M_mount_Balanced_L2 (loads : (List Int)) (Q : (List Int) → Int → Int → Prop) (b2 : Int) (again2 : List (List Bool) → Int → Prop) (l2 : List (List Bool)) (n2 : Int) : Prop :=
  cnd (decide (n2 ≥ 0)) (idx l2 (w64 (n2 + 1)) fun x3 => M_clone_bool x3 fun y1 => idx l2 n2 fun x4 => idx loads n2 fun x5 => lp (fun again (s : List (List Bool) × Int) => M_mount_Balanced_L3 b2 n2 again2 x5 (fun l4 n4 => again (l4, n4)) s.1 s.2) ((l2.set n2.toNat y1), x5)) (idx loads 0 fun x10 => lp (fun again (s : Int × Int) => M_mount_Balanced_L4 loads Q b2 l2 x10 (fun b4 n6 => again (b4, n6)) s.1 s.2) (b2, x10))
def M_mount_Balanced_L1 (Q : (List Int) → Int → Int → Prop) (k1 : Nat) (xk1 : Int) (b2 : Int) (next1 : Int → Prop) : Prop :=
  cnd (!(within xk1 0 1000)) (Q ([] : List Int) 0 1) (next1 (w64 (b2 + xk1)))
def M_mount_Balanced (loads : (List Int)) (Q : (List Int) → Int → Int → Prop) : Prop :=
  cnd (decide ((loads.length : Int) > 30)) (Q ([] : List Int) 0 2) (forIn' (fun k x (s : Int) next => M_mount_Balanced_L1 Q k x s (fun b2 => next b2)) (fun (s : Int) => (fun (b2 : Int) => cnd ((loads.length : Int) == 0) (Q ([] : List Int) 0 0) (must (0 ≤ w64 ((loads.length : Int) + 1) ∧ w64 ((loads.length : Int) + 1) * 24 ≤ 281474976710656) (must (0 ≤ w64 (b2 + 1) ∧ w64 (b2 + 1) * 1 ≤ 281474976710656) (idx (List.replicate ((w64 ((loads.length : Int) + 1)).toNat) ([] : (List Bool))) (loads.length : Int) fun x1 => idx (List.replicate ((w64 (b2 + 1)).toNat) false) 0 fun x2 => lp (fun again (s : List (List Bool) × Int) => M_mount_Balanced_L2 loads Q b2 (fun l2 n2 => again (l2, n2)) s.1 s.2) ((((List.replicate ((w64 ((loads.length : Int) + 1)).toNat) ([] : (List Bool))).set loads.length (List.replicate ((w64 (b2 + 1)).toNat) false)).set loads.length ((List.replicate ((w64 (b2 + 1)).toNat) false).set 0 true)), w64 ((loads.length : Int) - 1)))))) s) loads 0 0)
set_option maxHeartbeats 1000000 in
theorem R_mount_Balanced (loads : (List Int)) (w0 : World) (loadsA : Option Addr) (loadsC : Nat) (hv_loads : View w0 (old w0 none_) loadsA loadsC loads) (Q : (List Int) → Int → Int → Prop) (h : M_mount_Balanced loads Q) :
    Ret Try.prog 7 #[.slice loadsA loads.length loadsC] w0 fun v w' => ∃ (r0 : (List Int)) (r0A : Option Addr) (r0C : Nat) (r1 : Int) (r2 : Int), v = .tuple #[.slice r0A r0.length r0C, .int .i64 r1, .int .i64 r2] ∧ Q r0 r1 r2 ∧ Sat w0 none_ [hown 3 r0A r0C r0] w' := by
  refine fn_enter Try.func7 rfl Try.ntmps7 rfl (fs := [(0, .slice loadsA loads.length loadsC)]) rfl (fun a hf => ?_)
  have hs := Sat.start w0 none_
  unfold M_mount_Balanced at h
  refine wp_seq ?_
  refine R.list ?_
  refine S.val hf hs (v := .slice none 0 0) rfl rfl rfl (V.pure rfl) (fun a hf => ?_)
  refine S.val hf hs (v := .int .i64 0) rfl rfl rfl (V.pure rfl) (fun a hf => ?_)
  refine S.val hf hs (v := .int .i64 0) rfl rfl rfl (V.pure rfl) (fun a hf => ?_)
  refine R.nil ?_
  refine X.then_ ?_
  refine wp_seq ?_
  refine wp_seq ?_
  refine R.list ?_
  refine S.val hf hs (v := .slice loadsA loads.length loadsC) rfl rfl rfl (V.pure rfl) (fun a hf => ?_)
  refine S.val hf hs (v := .int .i64 (loads.length : Int)) rfl rfl rfl (V.len rfl rfl Try.runUnderlying22) (fun a hf => ?_)
  refine S.val hf hs (v := .bool (decide ((loads.length : Int) > 30))) rfl rfl rfl (V.pure rfl) (fun a hf => ?_)
  refine R.nil ?_
  refine X.then_ ?_
  refine C.cond hf (b := decide ((loads.length : Int) > 30)) rfl (fun hc => ?_) (fun hc => ?_)
  · replace h := h.1 hc
    refine wp_seq ?_
    refine R.list ?_
    refine S.val hf hs (v := .slice none 0 0) rfl rfl rfl (V.pure rfl) (fun a hf => ?_)
    refine S.val hf hs (v := .int .i64 0) rfl rfl rfl (V.pure rfl) (fun a hf => ?_)
    refine S.val hf hs (v := .int .i64 2) rfl rfl rfl (V.pure rfl) (fun a hf => ?_)
    refine R.nil ?_
    refine X.then_ ?_
    refine wp_ret ?_
    refine X.then_ret ?_
    replace hs := hs.nilOwn (α := Int) 3
    replace hs := hs.take 1
    exact L.ret hf (run_results3 Try.results7 (ResIs.tmp hf rfl) (ResIs.tmp hf rfl) (ResIs.tmp hf rfl)) ⟨([] : List Int), none, 0, 0, 2, rfl, h, hs⟩
  · replace h := h.2 hc
    refine wp_skip ?_
    refine X.then_ ?_
    refine wp_seq ?_
    refine R.list ?_
    refine S.alloc hf hs rfl rfl rfl [.int .i64 0] rfl Try.zeroValue3 rfl (fun g1 a w hf hs => ?_)
    refine S.storeBox 0 hf hs rfl rfl [.int .i64 0] [.int .i64 0] rfl rfl rfl rfl rfl Try.sizeOf3 rfl rfl rfl rfl (fun a w hf hs => ?_)
    refine R.nil ?_
    refine X.then_ ?_
    refine wp_seq ?_
    refine wp_seq ?_
    refine R.list ?_
    refine S.val hf hs (v := .slice loadsA loads.length loadsC) rfl rfl rfl (V.pure rfl) (fun a hf => ?_)
    refine S.val hf hs (v := .int .i64 (loads.length : Int)) rfl rfl rfl (V.len rfl rfl Try.runUnderlying22) (fun a hf => ?_)
    refine S.val hf hs (v := .int .i64 0) rfl rfl rfl (V.pure rfl) (fun a hf => ?_)
    refine R.nil ?_
    refine X.then_ ?_
    refine wp_block ?_
    have hlenk1 := hv_loads.len64
    refine C.range (fun (ll : List Int) a w => ∃ (k1 : Nat) (b2 : Int), loads.drop k1 = ll ∧ k1 + ll.length = loads.length ∧ forIn' (fun k x (s : Int) next => M_mount_Balanced_L1 Q k x s (fun b2 => next b2)) (fun (s : Int) => (fun (b2 : Int) => cnd ((loads.length : Int) == 0) (Q ([] : List Int) 0 0) (must (0 ≤ w64 ((loads.length : Int) + 1) ∧ w64 ((loads.length : Int) + 1) * 24 ≤ 281474976710656) (must (0 ≤ w64 (b2 + 1) ∧ w64 (b2 + 1) * 1 ≤ 281474976710656) (idx (List.replicate ((w64 ((loads.length : Int) + 1)).toNat) ([] : (List Bool))) (loads.length : Int) fun x1 => idx (List.replicate ((w64 (b2 + 1)).toNat) false) 0 fun x2 => lp (fun again (s : List (List Bool) × Int) => M_mount_Balanced_L2 loads Q b2 (fun l2 n2 => again (l2, n2)) s.1 s.2) ((((List.replicate ((w64 ((loads.length : Int) + 1)).toNat) ([] : (List Bool))).set loads.length (List.replicate ((w64 (b2 + 1)).toNat) false)).set loads.length ((List.replicate ((w64 (b2 + 1)).toNat) false).set 0 true)), w64 ((loads.length : Int) - 1)))))) s) ll k1 b2 ∧ FrOk 167 [(22, .int .i64 (k1 : Int)), (0, .slice loadsA loads.length loadsC), (5, .pointer (some ⟨g1, 0, none⟩)), (20, .slice loadsA loads.length loadsC), (21, .int .i64 (loads.length : Int))] a ∧ Sat w0 none_ [hbox g1 3 [.int .i64 b2]] w) loads ⟨0, 0, rfl, Nat.zero_add _, h, (((((hf.nil.cons (hf.get 21 _ rfl)).cons (hf.get 20 _ rfl)).cons (hf.get 5 _ rfl)).cons (hf.get 0 _ rfl)).cons (hf.get 22 _ rfl)), hs⟩ ?_
    clear h hf hs
    rintro llk1 a w ⟨k1, b2, hlk1, hkk1, h, hf, hs⟩
    cases llk1 with
    | nil =>
      have hc := range_done hkk1
      replace h : (fun (b2 : Int) => cnd ((loads.length : Int) == 0) (Q ([] : List Int) 0 0) (must (0 ≤ w64 ((loads.length : Int) + 1) ∧ w64 ((loads.length : Int) + 1) * 24 ≤ 281474976710656) (must (0 ≤ w64 (b2 + 1) ∧ w64 (b2 + 1) * 1 ≤ 281474976710656) (idx (List.replicate ((w64 ((loads.length : Int) + 1)).toNat) ([] : (List Bool))) (loads.length : Int) fun x1 => idx (List.replicate ((w64 (b2 + 1)).toNat) false) 0 fun x2 => lp (fun again (s : List (List Bool) × Int) => M_mount_Balanced_L2 loads Q b2 (fun l2 n2 => again (l2, n2)) s.1 s.2) ((((List.replicate ((w64 ((loads.length : Int) + 1)).toNat) ([] : (List Bool))).set loads.length (List.replicate ((w64 (b2 + 1)).toNat) false)).set loads.length ((List.replicate ((w64 (b2 + 1)).toNat) false).set 0 true)), w64 ((loads.length : Int) - 1)))))) b2 := h
      refine wp_seq ?_
      refine R.list ?_
      refine S.val hf hs (v := .bool false) rfl rfl rfl (V.cmp false rfl rfl rfl rfl hc) (fun a hf => ?_)
      refine R.nil ?_
      refine X.then_ ?_
      refine wp_seq ?_
      refine C.no hf rfl ?_
      refine wp_exit ?_
      refine X.then_exit ?_
      refine X.then_exit ?_
      refine X.blk_exit ?_
      refine X.then_ ?_
      refine wp_seq ?_
      refine wp_seq ?_
      refine R.list ?_
      refine S.val hf hs (v := .slice loadsA loads.length loadsC) rfl rfl rfl (V.pure rfl) (fun a hf => ?_)
      refine S.val hf hs (v := .int .i64 (loads.length : Int)) rfl rfl rfl (V.len rfl rfl Try.runUnderlying22) (fun a hf => ?_)
      refine S.val hf hs (v := .bool ((loads.length : Int) == 0)) rfl rfl rfl (V.pure rfl) (fun a hf => ?_)
      refine R.nil ?_
      refine X.then_ ?_
      refine C.cond hf (b := (loads.length : Int) == 0) rfl (fun hc => ?_) (fun hc => ?_)
      · replace h := h.1 hc
        refine wp_seq ?_
        refine R.list ?_
        refine S.val hf hs (v := .slice none 0 0) rfl rfl rfl (V.pure rfl) (fun a hf => ?_)
        refine S.val hf hs (v := .int .i64 0) rfl rfl rfl (V.pure rfl) (fun a hf => ?_)
        refine S.val hf hs (v := .int .i64 0) rfl rfl rfl (V.pure rfl) (fun a hf => ?_)
        refine R.nil ?_
        refine X.then_ ?_
        refine wp_ret ?_
        refine X.then_ret ?_
        replace hs := hs.nilOwn (α := Int) 3
        replace hs := hs.take 1
        exact L.ret hf (run_results3 Try.results7 (ResIs.tmp hf rfl) (ResIs.tmp hf rfl) (ResIs.tmp hf rfl)) ⟨([] : List Int), none, 0, 0, 0, rfl, h, hs⟩
      · replace h := h.2 hc
        refine wp_skip ?_
        refine X.then_ ?_
        refine wp_seq ?_
        refine R.list ?_
        refine S.val hf hs (v := .slice loadsA loads.length loadsC) rfl rfl rfl (V.pure rfl) (fun a hf => ?_)
        refine S.val hf hs (v := .int .i64 (loads.length : Int)) rfl rfl rfl (V.len rfl rfl Try.runUnderlying22) (fun a hf => ?_)
        refine S.val hf hs (v := .int .i64 (w64 ((loads.length : Int) + 1))) rfl rfl rfl (V.pure rfl) (fun a hf => ?_)
        obtain ⟨hmk, h⟩ := h
        refine S.makeRows hf hs rfl rfl rfl ([] : (List Bool)) (z := (w64 ((loads.length : Int) + 1))) (N := (w64 ((loads.length : Int) + 1)).toNat) 4 rfl rfl rfl rfl Try.underlying39 info29 hmk rfl (by have := hmk.2; omega) (fun A1 a w hf hs => ?_)
        refine S.alloc hf hs rfl rfl rfl [.slice none 0 0] rfl Try.zeroValue39 rfl (fun g2 a w hf hs => ?_)
        refine S.storeBox 0 hf hs rfl rfl [.slice A1 (List.replicate ((w64 ((loads.length : Int) + 1)).toNat) ([] : (List Bool))).length ((w64 ((loads.length : Int) + 1)).toNat)] [.slice A1 (List.replicate ((w64 ((loads.length : Int) + 1)).toNat) ([] : (List Bool))).length ((w64 ((loads.length : Int) + 1)).toNat)] rfl rfl rfl rfl rfl Try.sizeOf39 rfl rfl rfl rfl (fun a w hf hs => ?_)
        refine R.nil ?_
        refine X.then_ ?_
        refine wp_seq ?_
        refine M.start 7 (Sat w0 none_ [hbox g2 39 [.slice A1 (List.replicate ((w64 ((loads.length : Int) + 1)).toNat) ([] : (List Bool))).length ((w64 ((loads.length : Int) + 1)).toNat)], hrows 29 4 A1 ((w64 ((loads.length : Int) + 1)).toNat) (List.replicate ((w64 ((loads.length : Int) + 1)).toNat) ((none : Option Addr), 0)) (List.replicate ((w64 ((loads.length : Int) + 1)).toNat) ([] : (List Bool))), hbox g1 3 [.int .i64 b2]]) mo ?_
        replace hs := hs.drew
        refine M.val hf hs (v := .slice A1 (List.replicate ((w64 ((loads.length : Int) + 1)).toNat) ([] : (List Bool))).length ((w64 ((loads.length : Int) + 1)).toNat)) (i := 0) rfl rfl rfl rfl (by kernel_rfl) (by kernel_rfl) (by kernel_rfl) (by kernel_rfl) (by kernel_rfl) rfl (V.loadBox 0 rfl rfl rfl Try.isAgg39 Try.sizeOf39 rfl rfl) (fun a hf => ?_)
        refine M.val hf hs (v := .slice loadsA loads.length loadsC) (i := 1) rfl rfl rfl rfl (by kernel_rfl) (by kernel_rfl) (by kernel_rfl) (by kernel_rfl) (by kernel_rfl) rfl (V.pure rfl) (fun a hf => ?_)
        refine M.val hf hs (v := .int .i64 (loads.length : Int)) (i := 2) rfl rfl rfl rfl (by kernel_rfl) (by kernel_rfl) (by kernel_rfl) (by kernel_rfl) (by kernel_rfl) rfl (V.len rfl rfl Try.runUnderlying22) (fun a hf => ?_)
        refine M.val hf hs (v := .int .i64 b2) (i := 3) rfl rfl rfl rfl (by kernel_rfl) (by kernel_rfl) (by kernel_rfl) (by kernel_rfl) (by kernel_rfl) rfl (V.loadBox 2 rfl rfl rfl Try.isAgg3 Try.sizeOf3 rfl rfl) (fun a hf => ?_)
        refine M.val hf hs (v := .int .i64 (w64 (b2 + 1))) (i := 4) rfl rfl rfl rfl (by kernel_rfl) (by kernel_rfl) (by kernel_rfl) (by kernel_rfl) (by kernel_rfl) rfl (V.pure rfl) (fun a hf => ?_)
        refine M.one (i := 5) rfl (by kernel_rfl) ?_
        obtain ⟨hmk, h⟩ := h
        refine S.make hf hs rfl rfl rfl (α := Bool) false (z := (w64 (b2 + 1))) (N := (w64 (b2 + 1)).toNat) rfl rfl rfl Try.underlying29 info4 hmk rfl (by have := hmk.2; omega) (fun A2 a w hf hs => ?_)
        refine R.nil ?_
        refine X.then_ ?_
        refine ⟨(hs.mask [false, true, true, true]), ?_⟩
        obtain ⟨h0x1, x1, hx1, h⟩ := h
        refine M.val hf (hs.mask [false, true, true, true]) (v := elemPtr A1 (loads.length * 1)) (i := 6) rfl rfl rfl rfl (by kernel_rfl) (by kernel_rfl) (by kernel_rfl) (by kernel_rfl) (by kernel_rfl) rfl (V.index rfl rfl rfl Try.runUnderlying39 Try.sizeOf29 (hs.rowsSome 2 rfl hx1) (Int.natCast_nonneg _) (lt_of_get hx1) rfl) (fun a hf => ?_)
        refine M.last (i := 7) rfl (by kernel_rfl) (by kernel_rfl) ?_
        obtain ⟨B1, D1, hrB1⟩ := hs.rowAt 2 rfl hx1
        refine S.putRow (off := 0) 1 hf hs rfl rfl (List.replicate ((w64 (b2 + 1)).toNat) false) [.slice A2 (List.replicate ((w64 (b2 + 1)).toNat) false).length ((w64 (b2 + 1)).toNat)] rfl hx1 hrB1 rfl rfl rfl rfl rfl rfl Try.sizeOf29 rfl (by decide) rfl rfl (fun a w hf hs => ?_)
        replace hs := hs.rebox 0 (vs' := [.slice A1 ((List.replicate ((w64 ((loads.length : Int) + 1)).toNat) ([] : (List Bool))).set loads.length (List.replicate ((w64 (b2 + 1)).toNat) false)).length ((w64 ((loads.length : Int) + 1)).toNat)]) rfl (congrArg (fun n => [Value.slice A1 n ((w64 ((loads.length : Int) + 1)).toNat)]) List.length_set.symm)
        replace hf := hf.tell 39 (v := .slice A1 ((List.replicate ((w64 ((loads.length : Int) + 1)).toNat) ([] : (List Bool))).set loads.length (List.replicate ((w64 (b2 + 1)).toNat) false)).length ((w64 ((loads.length : Int) + 1)).toNat)) ((hf.get 39 (.slice A1 (List.replicate ((w64 ((loads.length : Int) + 1)).toNat) ([] : (List Bool))).length ((w64 ((loads.length : Int) + 1)).toNat)) rfl).trans (congrArg (fun n => Value.slice A1 n ((w64 ((loads.length : Int) + 1)).toNat)) List.length_set.symm))
        replace hf := hf.tell 40 (v := .slice A1 ((List.replicate ((w64 ((loads.length : Int) + 1)).toNat) ([] : (List Bool))).set loads.length (List.replicate ((w64 (b2 + 1)).toNat) false)).length ((w64 ((loads.length : Int) + 1)).toNat)) ((hf.get 40 (.slice A1 (List.replicate ((w64 ((loads.length : Int) + 1)).toNat) ([] : (List Bool))).length ((w64 ((loads.length : Int) + 1)).toNat)) rfl).trans (congrArg (fun n => Value.slice A1 n ((w64 ((loads.length : Int) + 1)).toNat)) List.length_set.symm))
        have hx1 : ((List.replicate ((w64 ((loads.length : Int) + 1)).toNat) ([] : (List Bool))).set loads.length (List.replicate ((w64 (b2 + 1)).toNat) false))[loads.length]? = some (List.replicate ((w64 (b2 + 1)).toNat) false) := List.getElem?_set_self (lt_of_get hx1)
        have hr1 : ((List.replicate ((w64 ((loads.length : Int) + 1)).toNat) ((none : Option Addr), 0)).set loads.length (A2, (w64 (b2 + 1)).toNat))[loads.length]? = some (A2, (w64 (b2 + 1)).toNat) := List.getElem?_set_self (lt_of_get hrB1)
        refine R.nil ?_
        refine X.then_ ?_
        refine M.done (by kernel_rfl) ?_
        refine X.then_ ?_
        refine wp_seq ?_
        refine R.list ?_
        refine S.val hf hs (v := .slice A1 ((List.replicate ((w64 ((loads.length : Int) + 1)).toNat) ([] : (List Bool))).set loads.length (List.replicate ((w64 (b2 + 1)).toNat) false)).length ((w64 ((loads.length : Int) + 1)).toNat)) rfl rfl rfl (V.loadBox 0 rfl rfl rfl Try.isAgg39 Try.sizeOf39 rfl rfl) (fun a hf => ?_)
        refine S.val hf hs (v := .slice loadsA loads.length loadsC) rfl rfl rfl (V.pure rfl) (fun a hf => ?_)
        refine S.val hf hs (v := .int .i64 (loads.length : Int)) rfl rfl rfl (V.len rfl rfl Try.runUnderlying22) (fun a hf => ?_)
        refine S.val hf hs (v := elemPtr A1 (loads.length * 1)) rfl rfl rfl (V.index rfl rfl rfl Try.runUnderlying39 Try.sizeOf29 (hs.rowsSome 1 rfl hx1) (Int.natCast_nonneg _) (lt_of_get hx1) rfl) (fun a hf => ?_)
        refine S.val hf hs (v := .slice A2 (List.replicate ((w64 (b2 + 1)).toNat) false).length ((w64 (b2 + 1)).toNat)) rfl rfl rfl (V.loadRows (off := 0) 1 rfl hx1 hr1 rfl rfl rfl Try.isAgg29 Try.sizeOf29 rfl rfl) (fun a hf => ?_)
        obtain ⟨h0x2, x2, hx2, h⟩ := h
        refine S.val hf hs (v := elemPtr A2 (0 * 1)) rfl rfl rfl (V.index rfl rfl rfl Try.runUnderlying29 Try.sizeOf4 ((hs.rowView 1 rfl hx1 hr1).some_ (lt_of_get hx2)) h0x2 (lt_of_get hx2) rfl) (fun a hf => ?_)
        refine S.storeRowEl (off := 0) 1 hf hs rfl rfl ((List.replicate ((w64 (b2 + 1)).toNat) false).set 0 true) true [.bool true] rfl hx1 hr1 hx2 rfl (row_same _ _ List.length_set _ _) rfl rfl rfl rfl rfl Try.sizeOf4 rfl (by decide) rfl rfl (fun a w hf hs => ?_)
        replace hs := hs.rebox 0 (vs' := [.slice A1 (((List.replicate ((w64 ((loads.length : Int) + 1)).toNat) ([] : (List Bool))).set loads.length (List.replicate ((w64 (b2 + 1)).toNat) false)).set loads.length ((List.replicate ((w64 (b2 + 1)).toNat) false).set 0 true)).length ((w64 ((loads.length : Int) + 1)).toNat)]) rfl (congrArg (fun n => [Value.slice A1 n ((w64 ((loads.length : Int) + 1)).toNat)]) List.length_set.symm)
        replace hf := hf.tell 39 (v := .slice A1 (((List.replicate ((w64 ((loads.length : Int) + 1)).toNat) ([] : (List Bool))).set loads.length (List.replicate ((w64 (b2 + 1)).toNat) false)).set loads.length ((List.replicate ((w64 (b2 + 1)).toNat) false).set 0 true)).length ((w64 ((loads.length : Int) + 1)).toNat)) ((hf.get 39 (.slice A1 ((List.replicate ((w64 ((loads.length : Int) + 1)).toNat) ([] : (List Bool))).set loads.length (List.replicate ((w64 (b2 + 1)).toNat) false)).length ((w64 ((loads.length : Int) + 1)).toNat)) rfl).trans (congrArg (fun n => Value.slice A1 n ((w64 ((loads.length : Int) + 1)).toNat)) List.length_set.symm))
        replace hf := hf.tell 40 (v := .slice A1 (((List.replicate ((w64 ((loads.length : Int) + 1)).toNat) ([] : (List Bool))).set loads.length (List.replicate ((w64 (b2 + 1)).toNat) false)).set loads.length ((List.replicate ((w64 (b2 + 1)).toNat) false).set 0 true)).length ((w64 ((loads.length : Int) + 1)).toNat)) ((hf.get 40 (.slice A1 ((List.replicate ((w64 ((loads.length : Int) + 1)).toNat) ([] : (List Bool))).set loads.length (List.replicate ((w64 (b2 + 1)).toNat) false)).length ((w64 ((loads.length : Int) + 1)).toNat)) rfl).trans (congrArg (fun n => Value.slice A1 n ((w64 ((loads.length : Int) + 1)).toNat)) List.length_set.symm))
        replace hf := hf.tell 47 (v := .slice A1 (((List.replicate ((w64 ((loads.length : Int) + 1)).toNat) ([] : (List Bool))).set loads.length (List.replicate ((w64 (b2 + 1)).toNat) false)).set loads.length ((List.replicate ((w64 (b2 + 1)).toNat) false).set 0 true)).length ((w64 ((loads.length : Int) + 1)).toNat)) ((hf.get 47 (.slice A1 ((List.replicate ((w64 ((loads.length : Int) + 1)).toNat) ([] : (List Bool))).set loads.length (List.replicate ((w64 (b2 + 1)).toNat) false)).length ((w64 ((loads.length : Int) + 1)).toNat)) rfl).trans (congrArg (fun n => Value.slice A1 n ((w64 ((loads.length : Int) + 1)).toNat)) List.length_set.symm))
        have hx2 : (((List.replicate ((w64 ((loads.length : Int) + 1)).toNat) ([] : (List Bool))).set loads.length (List.replicate ((w64 (b2 + 1)).toNat) false)).set loads.length ((List.replicate ((w64 (b2 + 1)).toNat) false).set 0 true))[loads.length]? = some ((List.replicate ((w64 (b2 + 1)).toNat) false).set 0 true) := List.getElem?_set_self (lt_of_get hx1)
        replace hf := hf.tell 45 (v := .slice A2 ((List.replicate ((w64 (b2 + 1)).toNat) false).set 0 true).length ((w64 (b2 + 1)).toNat)) ((hf.get 45 (.slice A2 (List.replicate ((w64 (b2 + 1)).toNat) false).length ((w64 (b2 + 1)).toNat)) rfl).trans (congrArg (fun n => Value.slice A2 n ((w64 (b2 + 1)).toNat)) List.length_set.symm))
        replace hf := hf.tell 51 (v := .slice A2 ((List.replicate ((w64 (b2 + 1)).toNat) false).set 0 true).length ((w64 (b2 + 1)).toNat)) ((hf.get 51 (.slice A2 (List.replicate ((w64 (b2 + 1)).toNat) false).length ((w64 (b2 + 1)).toNat)) rfl).trans (congrArg (fun n => Value.slice A2 n ((w64 (b2 + 1)).toNat)) List.length_set.symm))
        refine R.nil ?_
        refine X.then_ ?_
        refine wp_seq ?_
        refine wp_seq ?_
        refine R.list ?_
        refine S.val hf hs (v := .slice loadsA loads.length loadsC) rfl rfl rfl (V.pure rfl) (fun a hf => ?_)
        refine S.val hf hs (v := .int .i64 (loads.length : Int)) rfl rfl rfl (V.len rfl rfl Try.runUnderlying22) (fun a hf => ?_)
        refine S.val hf hs (v := .int .i64 (w64 ((loads.length : Int) - 1))) rfl rfl rfl (V.pure rfl) (fun a hf => ?_)
        refine S.val hf hs (v := .int .i64 (w64 ((loads.length : Int) - 1))) rfl rfl rfl (V.pure rfl) (fun a hf => ?_)
        refine R.nil ?_
        refine X.then_ ?_
        refine wp_block ?_
        obtain ⟨kk, h⟩ := h
        refine C.loop (fun kk a w => ∃ (l2 : List (List Bool)) (l2A : Option Addr) (l2C : Nat) (l2as : List (Option Addr × Nat)) (n2 : Int), iterF (fun again (s : List (List Bool) × Int) => M_mount_Balanced_L2 loads Q b2 (fun l2 n2 => again (l2, n2)) s.1 s.2) kk (l2, n2) ∧ FrOk 167 [(0, .slice loadsA loads.length loadsC), (5, .pointer (some ⟨g1, 0, none⟩)), (8, .pointer (some ⟨g2, 0, none⟩)), (9, .int .i64 n2)] a ∧ Sat w0 none_ [hbox g2 39 [.slice l2A l2.length l2C], hrows 29 4 l2A l2C l2as l2, hbox g1 3 [.int .i64 b2]] w) kk ⟨(((List.replicate ((w64 ((loads.length : Int) + 1)).toNat) ([] : (List Bool))).set loads.length (List.replicate ((w64 (b2 + 1)).toNat) false)).set loads.length ((List.replicate ((w64 (b2 + 1)).toNat) false).set 0 true)), A1, ((w64 ((loads.length : Int) + 1)).toNat), ((List.replicate ((w64 ((loads.length : Int) + 1)).toNat) ((none : Option Addr), 0)).set loads.length (A2, (w64 (b2 + 1)).toNat)), (w64 ((loads.length : Int) - 1)), h, ((((hf.nil.cons (hf.get 9 _ rfl)).cons (hf.get 8 _ rfl)).cons (hf.get 5 _ rfl)).cons (hf.get 0 _ rfl)), hs⟩ (fun a w ⟨_, _, _, _, _, h, _, _⟩ => h) ?_
        clear h hf hs
        rintro kk a w ⟨l2, l2A, l2C, l2as, n2, h, hf, hs⟩
        obtain ⟨again2, hagain2⟩ : ∃ X : List (List Bool) → Int → Prop, X = (fun l2 n2 => iterF (fun again (s : List (List Bool) × Int) => M_mount_Balanced_L2 loads Q b2 (fun l2 n2 => again (l2, n2)) s.1 s.2) kk (l2, n2)) := ⟨_, rfl⟩
        replace h : M_mount_Balanced_L2 loads Q b2 again2 l2 n2 := by rw [hagain2]; exact h
        unfold M_mount_Balanced_L2 at h
        refine wp_seq ?_
        refine wp_seq ?_
        refine R.list ?_
        refine S.val hf hs (v := .int .i64 n2) rfl rfl rfl (V.pure rfl) (fun a hf => ?_)
        refine S.val hf hs (v := .bool (decide (n2 ≥ 0))) rfl rfl rfl (V.pure rfl) (fun a hf => ?_)
        refine R.nil ?_
        refine X.then_ ?_
        refine C.cond hf (b := decide (n2 ≥ 0)) rfl (fun hc => ?_) (fun hc => ?_)
        · replace h := h.1 hc
          refine wp_skip ?_
          refine X.then_ ?_
          refine wp_seq ?_
          refine wp_block ?_
          refine wp_seq ?_
          refine M.start 9 (Sat w0 none_ [hbox g2 39 [.slice l2A l2.length l2C], hrows 29 4 l2A l2C l2as l2, hbox g1 3 [.int .i64 b2]]) mo ?_
          replace hs := hs.drew
          refine M.val hf hs (v := .slice l2A l2.length l2C) (i := 0) rfl rfl rfl rfl (by kernel_rfl) (by kernel_rfl) (by kernel_rfl) (by kernel_rfl) (by kernel_rfl) rfl (V.loadBox 0 rfl rfl rfl Try.isAgg39 Try.sizeOf39 rfl rfl) (fun a hf => ?_)
          refine M.val hf hs (v := .int .i64 n2) (i := 1) rfl rfl rfl rfl (by kernel_rfl) (by kernel_rfl) (by kernel_rfl) (by kernel_rfl) (by kernel_rfl) rfl (V.pure rfl) (fun a hf => ?_)
          refine M.val hf hs (v := .slice l2A l2.length l2C) (i := 2) rfl rfl rfl rfl (by kernel_rfl) (by kernel_rfl) (by kernel_rfl) (by kernel_rfl) (by kernel_rfl) rfl (V.loadBox 0 rfl rfl rfl Try.isAgg39 Try.sizeOf39 rfl rfl) (fun a hf => ?_)
          refine M.val hf hs (v := .int .i64 n2) (i := 3) rfl rfl rfl rfl (by kernel_rfl) (by kernel_rfl) (by kernel_rfl) (by kernel_rfl) (by kernel_rfl) rfl (V.pure rfl) (fun a hf => ?_)
          refine M.val hf hs (v := .int .i64 (w64 (n2 + 1))) (i := 4) rfl rfl rfl rfl (by kernel_rfl) (by kernel_rfl) (by kernel_rfl) (by kernel_rfl) (by kernel_rfl) rfl (V.pure rfl) (fun a hf => ?_)
          obtain ⟨h0x3, x3, hx3, h⟩ := h
          refine M.val hf hs (v := elemPtr l2A ((w64 (n2 + 1)).toNat * 1)) (i := 5) rfl rfl rfl rfl (by kernel_rfl) (by kernel_rfl) (by kernel_rfl) (by kernel_rfl) (by kernel_rfl) rfl (V.index rfl rfl rfl Try.runUnderlying39 Try.sizeOf29 (hs.rowsSome 1 rfl hx3) h0x3 (lt_of_get hx3) rfl) (fun a hf => ?_)
          obtain ⟨B2, D2, hrB2⟩ := hs.rowAt 1 rfl hx3
          refine M.val hf hs (v := .slice B2 x3.length D2) (i := 6) rfl rfl rfl rfl (by kernel_rfl) (by kernel_rfl) (by kernel_rfl) (by kernel_rfl) (by kernel_rfl) rfl (V.loadRows (off := 0) 1 rfl hx3 hrB2 rfl rfl rfl Try.isAgg29 Try.sizeOf29 rfl rfl) (fun a hf => ?_)
          refine M.one (i := 7) rfl (by kernel_rfl) ?_
          refine S.call hf rfl rfl rfl (call_fn (vs := [.slice B2 x3.length D2]) rfl rfl rfl Try.call18) (R_clone_bool x3 _ B2 D2 (hs.rowView 1 rfl hx3 hrB2) _ h) (fun v a w' hf hr => ?_)
          obtain ⟨y1, y1A, y1C, rfl, h2, hs2⟩ := hr
          replace h := h2; replace hs := hs.call hs2; clear h2 hs2
          refine R.nil ?_
          refine X.then_ ?_
          refine ⟨(hs.mask [false, true, true, true]), ?_⟩
          obtain ⟨h0x4, x4, hx4, h⟩ := h
          refine M.val hf (hs.mask [false, true, true, true]) (v := elemPtr l2A (n2.toNat * 1)) (i := 8) rfl rfl rfl rfl (by kernel_rfl) (by kernel_rfl) (by kernel_rfl) (by kernel_rfl) (by kernel_rfl) rfl (V.index rfl rfl rfl Try.runUnderlying39 Try.sizeOf29 (hs.rowsSome 2 rfl hx4) h0x4 (lt_of_get hx4) rfl) (fun a hf => ?_)
          refine M.last (i := 9) rfl (by kernel_rfl) (by kernel_rfl) ?_
          obtain ⟨B3, D3, hrB3⟩ := hs.rowAt 2 rfl hx4
          refine S.putRow (off := 0) 1 hf hs rfl rfl y1 [.slice y1A y1.length y1C] rfl hx4 hrB3 rfl rfl rfl rfl rfl rfl Try.sizeOf29 rfl (by decide) rfl rfl (fun a w hf hs => ?_)
          replace hs := hs.rebox 0 (vs' := [.slice l2A (l2.set n2.toNat y1).length l2C]) rfl (congrArg (fun n => [Value.slice l2A n l2C]) List.length_set.symm)
          replace hf := hf.tell 60 (v := .slice l2A (l2.set n2.toNat y1).length l2C) ((hf.get 60 (.slice l2A l2.length l2C) rfl).trans (congrArg (fun n => Value.slice l2A n l2C) List.length_set.symm))
          replace hf := hf.tell 62 (v := .slice l2A (l2.set n2.toNat y1).length l2C) ((hf.get 62 (.slice l2A l2.length l2C) rfl).trans (congrArg (fun n => Value.slice l2A n l2C) List.length_set.symm))
          have hx3 : (l2.set n2.toNat y1)[n2.toNat]? = some y1 := List.getElem?_set_self (lt_of_get hx4)
          have hr2 : (l2as.set n2.toNat (y1A, y1C))[n2.toNat]? = some (y1A, y1C) := List.getElem?_set_self (lt_of_get hrB3)
          refine R.nil ?_
          refine X.then_ ?_
          refine M.done (by kernel_rfl) ?_
          refine X.then_ ?_
          refine wp_seq ?_
          refine R.list ?_
          refine S.val hf hs (v := .slice loadsA loads.length loadsC) rfl rfl rfl (V.pure rfl) (fun a hf => ?_)
          refine S.val hf hs (v := .int .i64 n2) rfl rfl rfl (V.pure rfl) (fun a hf => ?_)
          obtain ⟨h0x5, x5, hx5, h⟩ := h
          refine S.val hf hs (v := elemPtr loadsA (n2.toNat * 1)) rfl rfl rfl (V.index rfl rfl rfl Try.runUnderlying22 Try.sizeOf3 (hv_loads.some_ (lt_of_get hx5)) h0x5 (lt_of_get hx5) rfl) (fun a hf => ?_)
          refine S.val hf hs (v := .int .i64 x5) rfl rfl rfl (V.loadEl (off := 0) (Ag.args _ _ _) (hv_loads.flat hx5) rfl rfl rfl Try.isAgg3 Try.sizeOf3 rfl rfl) (fun a hf => ?_)
          refine S.val hf hs (v := .int .i64 x5) rfl rfl rfl (V.pure rfl) (fun a hf => ?_)
          refine R.nil ?_
          refine X.then_ ?_
          refine wp_block ?_
          obtain ⟨kk, h⟩ := h
          refine C.loop (fun kk a w => ∃ (l4 : List (List Bool)) (l4A : Option Addr) (l4C : Nat) (l4as : List (Option Addr × Nat)) (n4 : Int), iterF (fun again (s : List (List Bool) × Int) => M_mount_Balanced_L3 b2 n2 again2 x5 (fun l4 n4 => again (l4, n4)) s.1 s.2) kk (l4, n4) ∧ FrOk 167 [(0, .slice loadsA loads.length loadsC), (5, .pointer (some ⟨g1, 0, none⟩)), (8, .pointer (some ⟨g2, 0, none⟩)), (9, .int .i64 n2), (10, .int .i64 n4)] a ∧ Sat w0 none_ [hbox g2 39 [.slice l4A l4.length l4C], hrows 29 4 l4A l4C l4as l4, hbox g1 3 [.int .i64 b2]] w) kk ⟨(l2.set n2.toNat y1), l2A, l2C, (l2as.set n2.toNat (y1A, y1C)), x5, h, (((((hf.nil.cons (hf.get 10 _ rfl)).cons (hf.get 9 _ rfl)).cons (hf.get 8 _ rfl)).cons (hf.get 5 _ rfl)).cons (hf.get 0 _ rfl)), hs⟩ (fun a w ⟨_, _, _, _, _, h, _, _⟩ => h) ?_
          clear h hf hs
          rintro kk a w ⟨l4, l4A, l4C, l4as, n4, h, hf, hs⟩
          obtain ⟨again3, hagain3⟩ : ∃ X : List (List Bool) → Int → Prop, X = (fun l4 n4 => iterF (fun again (s : List (List Bool) × Int) => M_mount_Balanced_L3 b2 n2 again2 x5 (fun l4 n4 => again (l4, n4)) s.1 s.2) kk (l4, n4)) := ⟨_, rfl⟩
          replace h : M_mount_Balanced_L3 b2 n2 again2 x5 again3 l4 n4 := by rw [hagain3]; exact h
          unfold M_mount_Balanced_L3 at h
          refine wp_seq ?_
          refine wp_seq ?_
          refine R.list ?_
          refine S.val hf hs (v := .int .i64 n4) rfl rfl rfl (V.pure rfl) (fun a hf => ?_)
          refine S.val hf hs (v := .int .i64 b2) rfl rfl rfl (V.loadBox 2 rfl rfl rfl Try.isAgg3 Try.sizeOf3 rfl rfl) (fun a hf => ?_)
          refine S.val hf hs (v := .bool (decide (n4 ≤ b2))) rfl rfl rfl (V.pure rfl) (fun a hf => ?_)
          refine R.nil ?_
          refine X.then_ ?_
          refine C.cond hf (b := decide (n4 ≤ b2)) rfl (fun hc => ?_) (fun hc => ?_)
          · replace h := h.1 hc
            refine wp_skip ?_
            refine X.then_ ?_
            refine wp_seq ?_
            refine wp_block ?_
            refine M.start 28 (Sat w0 none_ [hbox g2 39 [.slice l4A l4.length l4C], hrows 29 4 l4A l4C l4as l4, hbox g1 3 [.int .i64 b2]]) mo ?_
            replace hs := hs.drew
            refine M.val hf hs (v := .slice l4A l4.length l4C) (i := 0) rfl rfl rfl rfl (by kernel_rfl) (by kernel_rfl) (by kernel_rfl) (by kernel_rfl) (by kernel_rfl) rfl (V.loadBox 0 rfl rfl rfl Try.isAgg39 Try.sizeOf39 rfl rfl) (fun a hf => ?_)
            refine M.val hf hs (v := .int .i64 n2) (i := 1) rfl rfl rfl rfl (by kernel_rfl) (by kernel_rfl) (by kernel_rfl) (by kernel_rfl) (by kernel_rfl) rfl (V.pure rfl) (fun a hf => ?_)
            obtain ⟨h0x6, x6, hx6, h⟩ := h
            refine M.val hf hs (v := elemPtr l4A (n2.toNat * 1)) (i := 2) rfl rfl rfl rfl (by kernel_rfl) (by kernel_rfl) (by kernel_rfl) (by kernel_rfl) (by kernel_rfl) rfl (V.index rfl rfl rfl Try.runUnderlying39 Try.sizeOf29 (hs.rowsSome 1 rfl hx6) h0x6 (lt_of_get hx6) rfl) (fun a hf => ?_)
            obtain ⟨B4, D4, hrB4⟩ := hs.rowAt 1 rfl hx6
            refine M.val hf hs (v := .slice B4 x6.length D4) (i := 3) rfl rfl rfl rfl (by kernel_rfl) (by kernel_rfl) (by kernel_rfl) (by kernel_rfl) (by kernel_rfl) rfl (V.loadRows (off := 0) 1 rfl hx6 hrB4 rfl rfl rfl Try.isAgg29 Try.sizeOf29 rfl rfl) (fun a hf => ?_)
            refine M.val hf hs (v := .int .i64 n4) (i := 4) rfl rfl rfl rfl (by kernel_rfl) (by kernel_rfl) (by kernel_rfl) (by kernel_rfl) (by kernel_rfl) rfl (V.pure rfl) (fun a hf => ?_)
            refine M.val hf hs (v := .slice l4A l4.length l4C) (i := 5) rfl rfl rfl rfl (by kernel_rfl) (by kernel_rfl) (by kernel_rfl) (by kernel_rfl) (by kernel_rfl) rfl (V.loadBox 0 rfl rfl rfl Try.isAgg39 Try.sizeOf39 rfl rfl) (fun a hf => ?_)
            refine M.val hf hs (v := .int .i64 n2) (i := 6) rfl rfl rfl rfl (by kernel_rfl) (by kernel_rfl) (by kernel_rfl) (by kernel_rfl) (by kernel_rfl) rfl (V.pure rfl) (fun a hf => ?_)
            refine M.val hf hs (v := elemPtr l4A (n2.toNat * 1)) (i := 7) rfl rfl rfl rfl (by kernel_rfl) (by kernel_rfl) (by kernel_rfl) (by kernel_rfl) (by kernel_rfl) rfl (V.index rfl rfl rfl Try.runUnderlying39 Try.sizeOf29 (hs.rowsSome 1 rfl hx6) h0x6 (lt_of_get hx6) rfl) (fun a hf => ?_)
            refine M.val hf hs (v := .slice B4 x6.length D4) (i := 8) rfl rfl rfl rfl (by kernel_rfl) (by kernel_rfl) (by kernel_rfl) (by kernel_rfl) (by kernel_rfl) rfl (V.loadRows (off := 0) 1 rfl hx6 hrB4 rfl rfl rfl Try.isAgg29 Try.sizeOf29 rfl rfl) (fun a hf => ?_)
            refine M.val hf hs (v := .int .i64 n4) (i := 9) rfl rfl rfl rfl (by kernel_rfl) (by kernel_rfl) (by kernel_rfl) (by kernel_rfl) (by kernel_rfl) rfl (V.pure rfl) (fun a hf => ?_)
            obtain ⟨h0x7, x7, hx7, h⟩ := h
            refine M.val hf hs (v := elemPtr B4 (n4.toNat * 1)) (i := 10) rfl rfl rfl rfl (by kernel_rfl) (by kernel_rfl) (by kernel_rfl) (by kernel_rfl) (by kernel_rfl) rfl (V.index rfl rfl rfl Try.runUnderlying29 Try.sizeOf4 ((hs.rowView 1 rfl hx6 hrB4).some_ (lt_of_get hx7)) h0x7 (lt_of_get hx7) rfl) (fun a hf => ?_)
            refine M.val hf hs (v := .bool x7) (i := 11) rfl rfl rfl rfl (by kernel_rfl) (by kernel_rfl) (by kernel_rfl) (by kernel_rfl) (by kernel_rfl) rfl (V.loadRowEl (off := 0) 1 rfl hx6 hrB4 hx7 rfl rfl rfl Try.isAgg4 Try.sizeOf4 rfl rfl) (fun a hf => ?_)
            refine M.split hf hs (b := x7) (i := 12) rfl rfl rfl rfl (by kernel_rfl) (by kernel_rfl) (by kernel_rfl) (by kernel_rfl) (by kernel_rfl) rfl (V.pure rfl) (fun hc a hf => ?_) (fun hc a hf => ?_)
            · replace h := h.1 hc
              refine M.skip hf hs (i := 13) rfl rfl rfl rfl (by kernel_rfl) (by kernel_rfl) (by kernel_rfl) (by kernel_rfl) (by kernel_rfl) rfl (fun a hf => ?_)
              refine M.skip hf hs (i := 14) rfl rfl rfl rfl (by kernel_rfl) (by kernel_rfl) (by kernel_rfl) (by kernel_rfl) (by kernel_rfl) rfl (fun a hf => ?_)
              refine M.skip hf hs (i := 15) rfl rfl rfl rfl (by kernel_rfl) (by kernel_rfl) (by kernel_rfl) (by kernel_rfl) (by kernel_rfl) rfl (fun a hf => ?_)
              refine M.skip hf hs (i := 16) rfl rfl rfl rfl (by kernel_rfl) (by kernel_rfl) (by kernel_rfl) (by kernel_rfl) (by kernel_rfl) rfl (fun a hf => ?_)
              refine M.skip hf hs (i := 17) rfl rfl rfl rfl (by kernel_rfl) (by kernel_rfl) (by kernel_rfl) (by kernel_rfl) (by kernel_rfl) rfl (fun a hf => ?_)
              refine M.skip hf hs (i := 18) rfl rfl rfl rfl (by kernel_rfl) (by kernel_rfl) (by kernel_rfl) (by kernel_rfl) (by kernel_rfl) rfl (fun a hf => ?_)
              refine M.skip hf hs (i := 19) rfl rfl rfl rfl (by kernel_rfl) (by kernel_rfl) (by kernel_rfl) (by kernel_rfl) (by kernel_rfl) rfl (fun a hf => ?_)
              refine M.skip hf hs (i := 20) rfl rfl rfl rfl (by kernel_rfl) (by kernel_rfl) (by kernel_rfl) (by kernel_rfl) (by kernel_rfl) rfl (fun a hf => ?_)
              refine M.skip hf hs (i := 21) rfl rfl rfl rfl (by kernel_rfl) (by kernel_rfl) (by kernel_rfl) (by kernel_rfl) (by kernel_rfl) rfl (fun a hf => ?_)
              refine M.skip hf hs (i := 22) rfl rfl rfl rfl (by kernel_rfl) (by kernel_rfl) (by kernel_rfl) (by kernel_rfl) (by kernel_rfl) rfl (fun a hf => ?_)
              refine M.skip hf hs (i := 23) rfl rfl rfl rfl (by kernel_rfl) (by kernel_rfl) (by kernel_rfl) (by kernel_rfl) (by kernel_rfl) rfl (fun a hf => ?_)
              refine M.skip hf hs (i := 24) rfl rfl rfl rfl (by kernel_rfl) (by kernel_rfl) (by kernel_rfl) (by kernel_rfl) (by kernel_rfl) rfl (fun a hf => ?_)
              refine M.skip hf hs (i := 25) rfl rfl rfl rfl (by kernel_rfl) (by kernel_rfl) (by kernel_rfl) (by kernel_rfl) (by kernel_rfl) rfl (fun a hf => ?_)
              refine M.val hf hs (v := .bool true) (i := 26) rfl rfl rfl rfl (by kernel_rfl) (by kernel_rfl) (by kernel_rfl) (by kernel_rfl) (by kernel_rfl) rfl (V.pure rfl) (fun a hf => ?_)
              refine M.val hf hs (v := elemPtr B4 (n4.toNat * 1)) (i := 27) rfl rfl rfl rfl (by kernel_rfl) (by kernel_rfl) (by kernel_rfl) (by kernel_rfl) (by kernel_rfl) rfl (V.index rfl rfl rfl Try.runUnderlying29 Try.sizeOf4 ((hs.rowView 1 rfl hx6 hrB4).some_ (lt_of_get hx7)) h0x7 (lt_of_get hx7) rfl) (fun a hf => ?_)
              refine M.last (i := 28) rfl (by kernel_rfl) (by kernel_rfl) ?_
              refine S.storeRowEl (off := 0) 1 hf hs rfl rfl (x6.set n4.toNat true) true [.bool true] rfl hx6 hrB4 hx7 rfl (row_same _ _ List.length_set _ _) rfl rfl rfl rfl rfl Try.sizeOf4 rfl (by decide) rfl rfl (fun a w hf hs => ?_)
              replace hs := hs.rebox 0 (vs' := [.slice l4A (l4.set n2.toNat (x6.set n4.toNat true)).length l4C]) rfl (congrArg (fun n => [Value.slice l4A n l4C]) List.length_set.symm)
              replace hf := hf.tell 78 (v := .slice l4A (l4.set n2.toNat (x6.set n4.toNat true)).length l4C) ((hf.get 78 (.slice l4A l4.length l4C) rfl).trans (congrArg (fun n => Value.slice l4A n l4C) List.length_set.symm))
              replace hf := hf.tell 83 (v := .slice l4A (l4.set n2.toNat (x6.set n4.toNat true)).length l4C) ((hf.get 83 (.slice l4A l4.length l4C) rfl).trans (congrArg (fun n => Value.slice l4A n l4C) List.length_set.symm))
              have hx4 : (l4.set n2.toNat (x6.set n4.toNat true))[n2.toNat]? = some (x6.set n4.toNat true) := List.getElem?_set_self (lt_of_get hx6)
              replace hf := hf.tell 81 (v := .slice B4 (x6.set n4.toNat true).length D4) ((hf.get 81 (.slice B4 x6.length D4) rfl).trans (congrArg (fun n => Value.slice B4 n D4) List.length_set.symm))
              replace hf := hf.tell 86 (v := .slice B4 (x6.set n4.toNat true).length D4) ((hf.get 86 (.slice B4 x6.length D4) rfl).trans (congrArg (fun n => Value.slice B4 n D4) List.length_set.symm))
              refine R.nil ?_
              refine X.then_ ?_
              refine M.done (by kernel_rfl) ?_
              refine X.blk ?_
              refine X.then_ ?_
              refine R.list ?_
              refine S.val hf hs (v := .int .i64 n4) rfl rfl rfl (V.pure rfl) (fun a hf => ?_)
              refine S.val hf hs (v := .int .i64 (w64 (n4 + 1))) rfl rfl rfl (V.pure rfl) (fun a hf => ?_)
              refine S.val hf hs (v := .int .i64 (w64 (n4 + 1))) rfl rfl rfl (V.pure rfl) (fun a hf => ?_)
              refine R.nil ?_
              refine X.then_ ?_
              exact ⟨(l4.set n2.toNat (x6.set n4.toNat true)), l4A, l4C, l4as, (w64 (n4 + 1)), (by rw [hagain3] at h; exact h), (((((hf.nil.cons (hf.get 10 _ rfl)).cons (hf.get 9 _ rfl)).cons (hf.get 8 _ rfl)).cons (hf.get 5 _ rfl)).cons (hf.get 0 _ rfl)), hs⟩
            · replace h := h.2 hc
              refine M.val hf hs (v := .slice l4A l4.length l4C) (i := 13) rfl rfl rfl rfl (by kernel_rfl) (by kernel_rfl) (by kernel_rfl) (by kernel_rfl) (by kernel_rfl) rfl (V.loadBox 0 rfl rfl rfl Try.isAgg39 Try.sizeOf39 rfl rfl) (fun a hf => ?_)
              refine M.val hf hs (v := .int .i64 n2) (i := 14) rfl rfl rfl rfl (by kernel_rfl) (by kernel_rfl) (by kernel_rfl) (by kernel_rfl) (by kernel_rfl) rfl (V.pure rfl) (fun a hf => ?_)
              refine M.val hf hs (v := .int .i64 (w64 (n2 + 1))) (i := 15) rfl rfl rfl rfl (by kernel_rfl) (by kernel_rfl) (by kernel_rfl) (by kernel_rfl) (by kernel_rfl) rfl (V.pure rfl) (fun a hf => ?_)
              obtain ⟨h0x8, x8, hx8, h⟩ := h
              refine M.val hf hs (v := elemPtr l4A ((w64 (n2 + 1)).toNat * 1)) (i := 16) rfl rfl rfl rfl (by kernel_rfl) (by kernel_rfl) (by kernel_rfl) (by kernel_rfl) (by kernel_rfl) rfl (V.index rfl rfl rfl Try.runUnderlying39 Try.sizeOf29 (hs.rowsSome 1 rfl hx8) h0x8 (lt_of_get hx8) rfl) (fun a hf => ?_)
              obtain ⟨B5, D5, hrB5⟩ := hs.rowAt 1 rfl hx8
              refine M.val hf hs (v := .slice B5 x8.length D5) (i := 17) rfl rfl rfl rfl (by kernel_rfl) (by kernel_rfl) (by kernel_rfl) (by kernel_rfl) (by kernel_rfl) rfl (V.loadRows (off := 0) 1 rfl hx8 hrB5 rfl rfl rfl Try.isAgg29 Try.sizeOf29 rfl rfl) (fun a hf => ?_)
              refine M.val hf hs (v := .int .i64 n4) (i := 18) rfl rfl rfl rfl (by kernel_rfl) (by kernel_rfl) (by kernel_rfl) (by kernel_rfl) (by kernel_rfl) rfl (V.pure rfl) (fun a hf => ?_)
              refine M.val hf hs (v := .slice loadsA loads.length loadsC) (i := 19) rfl rfl rfl rfl (by kernel_rfl) (by kernel_rfl) (by kernel_rfl) (by kernel_rfl) (by kernel_rfl) rfl (V.pure rfl) (fun a hf => ?_)
              refine M.val hf hs (v := .int .i64 n2) (i := 20) rfl rfl rfl rfl (by kernel_rfl) (by kernel_rfl) (by kernel_rfl) (by kernel_rfl) (by kernel_rfl) rfl (V.pure rfl) (fun a hf => ?_)
              refine M.val hf hs (v := elemPtr loadsA (n2.toNat * 1)) (i := 21) rfl rfl rfl rfl (by kernel_rfl) (by kernel_rfl) (by kernel_rfl) (by kernel_rfl) (by kernel_rfl) rfl (V.index rfl rfl rfl Try.runUnderlying22 Try.sizeOf3 (hv_loads.some_ (lt_of_get hx5)) h0x5 (lt_of_get hx5) rfl) (fun a hf => ?_)
              refine M.val hf hs (v := .int .i64 x5) (i := 22) rfl rfl rfl rfl (by kernel_rfl) (by kernel_rfl) (by kernel_rfl) (by kernel_rfl) (by kernel_rfl) rfl (V.loadEl (off := 0) (Ag.args _ _ _) (hv_loads.flat hx5) rfl rfl rfl Try.isAgg3 Try.sizeOf3 rfl rfl) (fun a hf => ?_)
              refine M.val hf hs (v := .int .i64 (w64 (n4 - x5))) (i := 23) rfl rfl rfl rfl (by kernel_rfl) (by kernel_rfl) (by kernel_rfl) (by kernel_rfl) (by kernel_rfl) rfl (V.pure rfl) (fun a hf => ?_)
              obtain ⟨h0x9, x9, hx9, h⟩ := h
              refine M.val hf hs (v := elemPtr B5 ((w64 (n4 - x5)).toNat * 1)) (i := 24) rfl rfl rfl rfl (by kernel_rfl) (by kernel_rfl) (by kernel_rfl) (by kernel_rfl) (by kernel_rfl) rfl (V.index rfl rfl rfl Try.runUnderlying29 Try.sizeOf4 ((hs.rowView 1 rfl hx8 hrB5).some_ (lt_of_get hx9)) h0x9 (lt_of_get hx9) rfl) (fun a hf => ?_)
              refine M.val hf hs (v := .bool x9) (i := 25) rfl rfl rfl rfl (by kernel_rfl) (by kernel_rfl) (by kernel_rfl) (by kernel_rfl) (by kernel_rfl) rfl (V.loadRowEl (off := 0) 1 rfl hx8 hrB5 hx9 rfl rfl rfl Try.isAgg4 Try.sizeOf4 rfl rfl) (fun a hf => ?_)
              refine M.val hf hs (v := .bool x9) (i := 26) rfl rfl rfl rfl (by kernel_rfl) (by kernel_rfl) (by kernel_rfl) (by kernel_rfl) (by kernel_rfl) rfl (V.pure rfl) (fun a hf => ?_)
              refine M.val hf hs (v := elemPtr B4 (n4.toNat * 1)) (i := 27) rfl rfl rfl rfl (by kernel_rfl) (by kernel_rfl) (by kernel_rfl) (by kernel_rfl) (by kernel_rfl) rfl (V.index rfl rfl rfl Try.runUnderlying29 Try.sizeOf4 ((hs.rowView 1 rfl hx6 hrB4).some_ (lt_of_get hx7)) h0x7 (lt_of_get hx7) rfl) (fun a hf => ?_)
              refine M.last (i := 28) rfl (by kernel_rfl) (by kernel_rfl) ?_
              refine S.storeRowEl (off := 0) 1 hf hs rfl rfl (x6.set n4.toNat x9) x9 [.bool x9] rfl hx6 hrB4 hx7 rfl (row_same _ _ List.length_set _ _) rfl rfl rfl rfl rfl Try.sizeOf4 rfl (by decide) rfl rfl (fun a w hf hs => ?_)
              replace hs := hs.rebox 0 (vs' := [.slice l4A (l4.set n2.toNat (x6.set n4.toNat x9)).length l4C]) rfl (congrArg (fun n => [Value.slice l4A n l4C]) List.length_set.symm)
              replace hf := hf.tell 78 (v := .slice l4A (l4.set n2.toNat (x6.set n4.toNat x9)).length l4C) ((hf.get 78 (.slice l4A l4.length l4C) rfl).trans (congrArg (fun n => Value.slice l4A n l4C) List.length_set.symm))
              replace hf := hf.tell 83 (v := .slice l4A (l4.set n2.toNat (x6.set n4.toNat x9)).length l4C) ((hf.get 83 (.slice l4A l4.length l4C) rfl).trans (congrArg (fun n => Value.slice l4A n l4C) List.length_set.symm))
              replace hf := hf.tell 91 (v := .slice l4A (l4.set n2.toNat (x6.set n4.toNat x9)).length l4C) ((hf.get 91 (.slice l4A l4.length l4C) rfl).trans (congrArg (fun n => Value.slice l4A n l4C) List.length_set.symm))
              have hx5 : (l4.set n2.toNat (x6.set n4.toNat x9))[n2.toNat]? = some (x6.set n4.toNat x9) := List.getElem?_set_self (lt_of_get hx6)
              replace hf := hf.tell 81 (v := .slice B4 (x6.set n4.toNat x9).length D4) ((hf.get 81 (.slice B4 x6.length D4) rfl).trans (congrArg (fun n => Value.slice B4 n D4) List.length_set.symm))
              replace hf := hf.tell 86 (v := .slice B4 (x6.set n4.toNat x9).length D4) ((hf.get 86 (.slice B4 x6.length D4) rfl).trans (congrArg (fun n => Value.slice B4 n D4) List.length_set.symm))
              refine R.nil ?_
              refine X.then_ ?_
              refine M.done (by kernel_rfl) ?_
              refine X.blk ?_
              refine X.then_ ?_
              refine R.list ?_
              refine S.val hf hs (v := .int .i64 n4) rfl rfl rfl (V.pure rfl) (fun a hf => ?_)
              refine S.val hf hs (v := .int .i64 (w64 (n4 + 1))) rfl rfl rfl (V.pure rfl) (fun a hf => ?_)
              refine S.val hf hs (v := .int .i64 (w64 (n4 + 1))) rfl rfl rfl (V.pure rfl) (fun a hf => ?_)
              refine R.nil ?_
              refine X.then_ ?_
              exact ⟨(l4.set n2.toNat (x6.set n4.toNat x9)), l4A, l4C, l4as, (w64 (n4 + 1)), (by rw [hagain3] at h; exact h), (((((hf.nil.cons (hf.get 10 _ rfl)).cons (hf.get 9 _ rfl)).cons (hf.get 8 _ rfl)).cons (hf.get 5 _ rfl)).cons (hf.get 0 _ rfl)), hs⟩
          · replace h := h.2 hc
            refine wp_exit ?_
            refine X.then_exit ?_
            refine X.then_exit ?_
            refine X.blk_exit ?_
            refine X.blk ?_
            refine X.then_ ?_
            refine R.list ?_
            refine S.val hf hs (v := .int .i64 n2) rfl rfl rfl (V.pure rfl) (fun a hf => ?_)
            refine S.val hf hs (v := .int .i64 (w64 (n2 - 1))) rfl rfl rfl (V.pure rfl) (fun a hf => ?_)
            refine S.val hf hs (v := .int .i64 (w64 (n2 - 1))) rfl rfl rfl (V.pure rfl) (fun a hf => ?_)
            refine R.nil ?_
            refine X.then_ ?_
            exact ⟨l4, l4A, l4C, l4as, (w64 (n2 - 1)), (by rw [hagain2] at h; exact h), ((((hf.nil.cons (hf.get 9 _ rfl)).cons (hf.get 8 _ rfl)).cons (hf.get 5 _ rfl)).cons (hf.get 0 _ rfl)), hs⟩
        · replace h := h.2 hc
          refine wp_exit ?_
          refine X.then_exit ?_
          refine X.then_exit ?_
          refine X.blk_exit ?_
          refine X.then_ ?_
          refine wp_seq ?_
          refine R.list ?_
          refine S.val hf hs (v := .int .i64 b2) rfl rfl rfl (V.loadBox 2 rfl rfl rfl Try.isAgg3 Try.sizeOf3 rfl rfl) (fun a hf => ?_)
          refine S.alloc hf hs rfl rfl rfl [.int .i64 0] rfl Try.zeroValue3 rfl (fun g3 a w hf hs => ?_)
          refine S.storeBox 0 hf hs rfl rfl [.int .i64 b2] [.int .i64 b2] rfl rfl rfl rfl rfl Try.sizeOf3 rfl rfl rfl rfl (fun a w hf hs => ?_)
          refine R.nil ?_
          refine X.then_ ?_
          refine wp_seq ?_
          refine wp_seq ?_
          refine R.list ?_
          refine S.val hf hs (v := .slice loadsA loads.length loadsC) rfl rfl rfl (V.pure rfl) (fun a hf => ?_)
          obtain ⟨h0x10, x10, hx10, h⟩ := h
          refine S.val hf hs (v := elemPtr loadsA (0 * 1)) rfl rfl rfl (V.index rfl rfl rfl Try.runUnderlying22 Try.sizeOf3 (hv_loads.some_ (lt_of_get hx10)) h0x10 (lt_of_get hx10) rfl) (fun a hf => ?_)
          refine S.val hf hs (v := .int .i64 x10) rfl rfl rfl (V.loadEl (off := 0) (Ag.args _ _ _) (hv_loads.flat hx10) rfl rfl rfl Try.isAgg3 Try.sizeOf3 rfl rfl) (fun a hf => ?_)
          refine S.val hf hs (v := .int .i64 x10) rfl rfl rfl (V.pure rfl) (fun a hf => ?_)
          refine R.nil ?_
          refine X.then_ ?_
          refine wp_block ?_
          obtain ⟨kk, h⟩ := h
          refine C.loop (fun kk a w => ∃ (b4 : Int) (n6 : Int), iterF (fun again (s : Int × Int) => M_mount_Balanced_L4 loads Q b2 l2 x10 (fun b4 n6 => again (b4, n6)) s.1 s.2) kk (b4, n6) ∧ FrOk 167 [(0, .slice loadsA loads.length loadsC), (5, .pointer (some ⟨g1, 0, none⟩)), (8, .pointer (some ⟨g2, 0, none⟩)), (11, .pointer (some ⟨g3, 0, none⟩)), (12, .int .i64 n6)] a ∧ Sat w0 none_ [hbox g3 3 [.int .i64 b4], hbox g2 39 [.slice l2A l2.length l2C], hrows 29 4 l2A l2C l2as l2, hbox g1 3 [.int .i64 b2]] w) kk ⟨b2, x10, h, (((((hf.nil.cons (hf.get 12 _ rfl)).cons (hf.get 11 _ rfl)).cons (hf.get 8 _ rfl)).cons (hf.get 5 _ rfl)).cons (hf.get 0 _ rfl)), hs⟩ (fun a w ⟨_, _, h, _, _⟩ => h) ?_
          clear h hf hs
          rintro kk a w ⟨b4, n6, h, hf, hs⟩
          obtain ⟨again4, hagain4⟩ : ∃ X : Int → Int → Prop, X = (fun b4 n6 => iterF (fun again (s : Int × Int) => M_mount_Balanced_L4 loads Q b2 l2 x10 (fun b4 n6 => again (b4, n6)) s.1 s.2) kk (b4, n6)) := ⟨_, rfl⟩
          replace h : M_mount_Balanced_L4 loads Q b2 l2 x10 again4 b4 n6 := by rw [hagain4]; exact h
          unfold M_mount_Balanced_L4 at h
          refine wp_seq ?_
          refine wp_seq ?_
          refine R.list ?_
          refine S.val hf hs (v := .int .i64 n6) rfl rfl rfl (V.pure rfl) (fun a hf => ?_)
          refine S.val hf hs (v := .int .i64 b2) rfl rfl rfl (V.loadBox 3 rfl rfl rfl Try.isAgg3 Try.sizeOf3 rfl rfl) (fun a hf => ?_)
          refine S.val hf hs (v := .bool (decide (n6 ≤ b2))) rfl rfl rfl (V.pure rfl) (fun a hf => ?_)
          refine R.nil ?_
          refine X.then_ ?_
          refine C.cond hf (b := decide (n6 ≤ b2)) rfl (fun hc => ?_) (fun hc => ?_)
          · replace h := h.1 hc
            refine wp_skip ?_
            refine X.then_ ?_
            refine wp_seq ?_
            refine wp_block ?_
            refine wp_seq ?_
            refine R.draw mo (by kernel_rfl) hs ?_
            refine D.val hf (v := .slice l2A l2.length l2C) rfl rfl rfl (V.loadBox 1 rfl rfl rfl Try.isAgg39 Try.sizeOf39 rfl rfl) (fun a hf => ?_)
            obtain ⟨h0x11, x11, hx11, h⟩ := h
            refine D.val hf (v := elemPtr l2A (1 * 1)) rfl rfl rfl (V.index rfl rfl rfl Try.runUnderlying39 Try.sizeOf29 (hs.rowsSome 2 rfl hx11) h0x11 (lt_of_get hx11) rfl) (fun a hf => ?_)
            obtain ⟨B6, D6, hrB6⟩ := hs.rowAt 2 rfl hx11
            refine D.val hf (v := .slice B6 x11.length D6) rfl rfl rfl (V.loadRows (off := 0) 2 rfl hx11 hrB6 rfl rfl rfl Try.isAgg29 Try.sizeOf29 rfl rfl) (fun a hf => ?_)
            refine D.val hf (v := .int .i64 n6) rfl rfl rfl (V.pure rfl) (fun a hf => ?_)
            refine D.val hf (v := .slice loadsA loads.length loadsC) rfl rfl rfl (V.pure rfl) (fun a hf => ?_)
            refine D.val hf (v := elemPtr loadsA (0 * 1)) rfl rfl rfl (V.index rfl rfl rfl Try.runUnderlying22 Try.sizeOf3 (hv_loads.some_ (lt_of_get hx10)) h0x10 (lt_of_get hx10) rfl) (fun a hf => ?_)
            refine D.val hf (v := .int .i64 x10) rfl rfl rfl (V.loadEl (off := 0) (Ag.args _ _ _) (hv_loads.flat hx10) rfl rfl rfl Try.isAgg3 Try.sizeOf3 rfl rfl) (fun a hf => ?_)
            refine D.val hf (v := .int .i64 (w64 (n6 - x10))) rfl rfl rfl (V.pure rfl) (fun a hf => ?_)
            obtain ⟨h0x12, x12, hx12, h⟩ := h
            refine D.val hf (v := elemPtr B6 ((w64 (n6 - x10)).toNat * 1)) rfl rfl rfl (V.index rfl rfl rfl Try.runUnderlying29 Try.sizeOf4 ((hs.rowView 2 rfl hx11 hrB6).some_ (lt_of_get hx12)) h0x12 (lt_of_get hx12) rfl) (fun a hf => ?_)
            refine D.val hf (v := .bool x12) rfl rfl rfl (V.loadRowEl (off := 0) 2 rfl hx11 hrB6 hx12 rfl rfl rfl Try.isAgg4 Try.sizeOf4 rfl rfl) (fun a hf => ?_)
            refine D.done (fun w hs => ?_)
            refine X.then_ ?_
            refine C.cond hf (b := x12) rfl (fun hc => ?_) (fun hc => ?_)
            · replace h := h.1 hc
              refine R.list ?_
              refine S.val hf hs (v := .int .i64 b4) rfl rfl rfl (V.loadBox 0 rfl rfl rfl Try.isAgg3 Try.sizeOf3 rfl rfl) (fun a hf => ?_)
              refine S.val hf hs (v := .int .i64 n6) rfl rfl rfl (V.pure rfl) (fun a hf => ?_)
              refine S.val hf hs (v := .int .i64 b2) rfl rfl rfl (V.loadBox 3 rfl rfl rfl Try.isAgg3 Try.sizeOf3 rfl rfl) (fun a hf => ?_)
              refine S.val hf hs (v := .int .i64 n6) rfl rfl rfl (V.pure rfl) (fun a hf => ?_)
              refine S.val hf hs (v := .int .i64 (w64 (b2 - n6))) rfl rfl rfl (V.pure rfl) (fun a hf => ?_)
              refine S.val hf hs (v := .int .i64 (max n6 (w64 (b2 - n6)))) rfl rfl rfl (V.max2 rfl rfl rfl) (fun a hf => ?_)
              refine S.val hf hs (v := .int .i64 (min b4 (max n6 (w64 (b2 - n6))))) rfl rfl rfl (V.min2 rfl rfl rfl) (fun a hf => ?_)
              refine S.storeBox 0 hf hs rfl rfl [.int .i64 (min b4 (max n6 (w64 (b2 - n6))))] [.int .i64 (min b4 (max n6 (w64 (b2 - n6))))] rfl rfl rfl rfl rfl Try.sizeOf3 rfl rfl rfl rfl (fun a w hf hs => ?_)
              refine R.nil ?_
              refine X.blk ?_
              refine X.then_ ?_
              refine R.list ?_
              refine S.val hf hs (v := .int .i64 n6) rfl rfl rfl (V.pure rfl) (fun a hf => ?_)
              refine S.val hf hs (v := .int .i64 (w64 (n6 + 1))) rfl rfl rfl (V.pure rfl) (fun a hf => ?_)
              refine S.val hf hs (v := .int .i64 (w64 (n6 + 1))) rfl rfl rfl (V.pure rfl) (fun a hf => ?_)
              refine R.nil ?_
              refine X.then_ ?_
              exact ⟨(min b4 (max n6 (w64 (b2 - n6)))), (w64 (n6 + 1)), (by rw [hagain4] at h; exact h), (((((hf.nil.cons (hf.get 12 _ rfl)).cons (hf.get 11 _ rfl)).cons (hf.get 8 _ rfl)).cons (hf.get 5 _ rfl)).cons (hf.get 0 _ rfl)), hs⟩
            · replace h := h.2 hc
              refine wp_skip ?_
              refine X.blk ?_
              refine X.then_ ?_
              refine R.list ?_
              refine S.val hf hs (v := .int .i64 n6) rfl rfl rfl (V.pure rfl) (fun a hf => ?_)
              refine S.val hf hs (v := .int .i64 (w64 (n6 + 1))) rfl rfl rfl (V.pure rfl) (fun a hf => ?_)
              refine S.val hf hs (v := .int .i64 (w64 (n6 + 1))) rfl rfl rfl (V.pure rfl) (fun a hf => ?_)
              refine R.nil ?_
              refine X.then_ ?_
              exact ⟨b4, (w64 (n6 + 1)), (by rw [hagain4] at h; exact h), (((((hf.nil.cons (hf.get 12 _ rfl)).cons (hf.get 11 _ rfl)).cons (hf.get 8 _ rfl)).cons (hf.get 5 _ rfl)).cons (hf.get 0 _ rfl)), hs⟩
          · replace h := h.2 hc
            refine wp_exit ?_
            refine X.then_exit ?_
            refine X.then_exit ?_
            refine X.blk_exit ?_
            refine X.then_ ?_
            refine wp_seq ?_
            refine H.start (S := Sat w0 none_ [hbox g3 3 [.int .i64 b4], hbox g2 39 [.slice l2A l2.length l2C], hrows 29 4 l2A l2C l2as l2, hbox g1 3 [.int .i64 b2]]) mo ?_
            replace hs := hs.drew
            refine H.val hf hs (v := .slice loadsA loads.length loadsC) (i := 1) rfl rfl rfl rfl (by kernel_rfl) (by kernel_rfl) (by kernel_rfl) (V.pure rfl) (fun a hf => ?_)
            refine H.val hf hs (v := elemPtr loadsA (0 * 1)) (i := 2) rfl rfl rfl rfl (by kernel_rfl) (by kernel_rfl) (by kernel_rfl) (V.index rfl rfl rfl Try.runUnderlying22 Try.sizeOf3 (hv_loads.some_ (lt_of_get hx10)) h0x10 (lt_of_get hx10) rfl) (fun a hf => ?_)
            refine H.val hf hs (v := .int .i64 x10) (i := 3) rfl rfl rfl rfl (by kernel_rfl) (by kernel_rfl) (by kernel_rfl) (V.loadEl (off := 0) (Ag.args _ _ _) (hv_loads.flat hx10) rfl rfl rfl Try.isAgg3 Try.sizeOf3 rfl rfl) (fun a hf => ?_)
            refine H.one (i := 0) rfl (by kernel_rfl) ?_
            refine S.build1 hf hs rfl rfl rfl (α := Int) 0 rfl rfl rfl Try.runUnderlying22 Try.sizeOf3 Try.zeroValue3 rfl (by decide) (fun A3 a w hf hs => ?_)
            refine R.nil ?_
            refine X.then_ ?_
            refine ⟨(hs.mask [false, true, true, true, true]), ?_⟩
            refine H.val hf (hs.mask [false, true, true, true, true]) (v := .slice A3 [0].length 1) (i := 4) rfl rfl rfl rfl (by kernel_rfl) (by kernel_rfl) (by kernel_rfl) (V.pure rfl) (fun a hf => ?_)
            refine H.val hf (hs.mask [false, true, true, true, true]) (v := .int .i64 x10) (i := 5) rfl rfl rfl rfl (by kernel_rfl) (by kernel_rfl) (by kernel_rfl) (V.pure rfl) (fun a hf => ?_)
            refine H.done (by kernel_rfl) ?_
            refine X.then_ ?_
            refine wp_seq ?_
            refine wp_seq ?_
            refine R.list ?_
            refine S.alloc hf hs rfl rfl rfl [.int .i64 0] rfl Try.zeroValue3 rfl (fun g4 a w hf hs => ?_)
            refine S.storeBox 0 hf hs rfl rfl [.int .i64 1] [.int .i64 1] rfl rfl rfl rfl rfl Try.sizeOf3 rfl rfl rfl rfl (fun a w hf hs => ?_)
            refine R.nil ?_
            refine X.then_ ?_
            refine wp_block ?_
            replace hs := hs.front 1 rfl
            replace hs := hs.front 2 rfl
            replace hs := hs.front 4 rfl
            replace hs := hs.front 4 rfl
            replace hs := hs.front 5 rfl
            obtain ⟨kk, h⟩ := h
            refine C.loop (fun kk a w => ∃ (l6 : List Int) (l6A : Option Addr) (l6C : Nat) (gj2 : Nat) (b6 : Int) (n8 : Int), iterF (fun again (s : List Int × Int × Int) => M_mount_Balanced_L5 loads Q b2 l2 b4 (fun l6 b6 n8 => again (l6, b6, n8)) s.1 s.2.1 s.2.2) kk (l6, b6, n8) ∧ FrOk 167 [(0, .slice loadsA loads.length loadsC), (5, .pointer (some ⟨g1, 0, none⟩)), (8, .pointer (some ⟨g2, 0, none⟩)), (11, .pointer (some ⟨g3, 0, none⟩)), (13, .slice l6A l6.length l6C), (14, .int .i64 n8), (15, .pointer (some ⟨gj2, 0, none⟩))] a ∧ Sat w0 none_ [hbox g1 3 [.int .i64 b2], hbox g2 39 [.slice l2A l2.length l2C], hrows 29 4 l2A l2C l2as l2, hbox g3 3 [.int .i64 b4], hown 3 l6A l6C l6, hbox gj2 3 [.int .i64 b6]] w) kk ⟨[0], A3, 1, g4, 1, x10, h, (((((((hf.nil.cons (hf.get 15 _ rfl)).cons (hf.get 14 _ rfl)).cons (hf.get 13 _ rfl)).cons (hf.get 11 _ rfl)).cons (hf.get 8 _ rfl)).cons (hf.get 5 _ rfl)).cons (hf.get 0 _ rfl)), hs⟩ (fun a w ⟨_, _, _, _, _, _, h, _, _⟩ => h) ?_
            clear h hf hs
            rintro kk a w ⟨l6, l6A, l6C, gj2, b6, n8, h, hf, hs⟩
            obtain ⟨again5, hagain5⟩ : ∃ X : List Int → Int → Int → Prop, X = (fun l6 b6 n8 => iterF (fun again (s : List Int × Int × Int) => M_mount_Balanced_L5 loads Q b2 l2 b4 (fun l6 b6 n8 => again (l6, b6, n8)) s.1 s.2.1 s.2.2) kk (l6, b6, n8)) := ⟨_, rfl⟩
            replace h : M_mount_Balanced_L5 loads Q b2 l2 b4 again5 l6 b6 n8 := by rw [hagain5]; exact h
            unfold M_mount_Balanced_L5 at h
            refine wp_seq ?_
            refine wp_seq ?_
            refine R.list ?_
            refine S.val hf hs (v := .int .i64 n8) rfl rfl rfl (V.pure rfl) (fun a hf => ?_)
            refine S.val hf hs (v := .int .i64 b2) rfl rfl rfl (V.loadBox 0 rfl rfl rfl Try.isAgg3 Try.sizeOf3 rfl rfl) (fun a hf => ?_)
            refine S.val hf hs (v := .int .i64 n8) rfl rfl rfl (V.pure rfl) (fun a hf => ?_)
            refine S.val hf hs (v := .int .i64 (w64 (b2 - n8))) rfl rfl rfl (V.pure rfl) (fun a hf => ?_)
            refine S.val hf hs (v := .int .i64 (max n8 (w64 (b2 - n8)))) rfl rfl rfl (V.max2 rfl rfl rfl) (fun a hf => ?_)
            refine S.val hf hs (v := .int .i64 b4) rfl rfl rfl (V.loadBox 3 rfl rfl rfl Try.isAgg3 Try.sizeOf3 rfl rfl) (fun a hf => ?_)
            refine S.val hf hs (v := .bool ((max n8 (w64 (b2 - n8))) != b4)) rfl rfl rfl (V.pure rfl) (fun a hf => ?_)
            refine R.nil ?_
            refine X.then_ ?_
            refine C.cond hf (b := (max n8 (w64 (b2 - n8))) != b4) rfl (fun hc => ?_) (fun hc => ?_)
            · replace h := h.1 hc
              refine wp_skip ?_
              refine X.then_ ?_
              refine wp_seq ?_
              refine C.cut (J := fun a w => ∃ (l7 : List Int) (l7A : Option Addr) (l7C : Nat) (n9 : Int), M_mount_Balanced_k6 b6 again5 l7 n9 ∧ FrOk 167 [(0, .slice loadsA loads.length loadsC), (5, .pointer (some ⟨g1, 0, none⟩)), (8, .pointer (some ⟨g2, 0, none⟩)), (11, .pointer (some ⟨g3, 0, none⟩)), (13, .slice l7A l7.length l7C), (14, .int .i64 n9), (15, .pointer (some ⟨gj2, 0, none⟩))] a ∧ Sat w0 none_ [hbox g1 3 [.int .i64 b2], hbox g2 39 [.slice l2A l2.length l2C], hrows 29 4 l2A l2C l2as l2, hbox g3 3 [.int .i64 b4], hown 3 l7A l7C l7, hbox gj2 3 [.int .i64 b6]] w) ?_ ?_
              · rintro a w ⟨l7, l7A, l7C, n9, h, hf, hs⟩
                unfold M_mount_Balanced_k6 at h
                refine wp_seq ?_
                refine wp_seq ?_
                refine R.list ?_
                refine S.val hf hs (v := .int .i64 b6) rfl rfl rfl (V.loadBox 5 rfl rfl rfl Try.isAgg3 Try.sizeOf3 rfl rfl) (fun a hf => ?_)
                refine R.nil ?_
                refine X.then_ ?_
                refine R.list ?_
                refine S.alloc hf hs rfl rfl rfl [.int .i64 0] rfl Try.zeroValue3 rfl (fun g5 a w hf hs => ?_)
                refine S.storeBox 0 hf hs rfl rfl [.int .i64 b6] [.int .i64 b6] rfl rfl rfl rfl rfl Try.sizeOf3 rfl rfl rfl rfl (fun a w hf hs => ?_)
                refine R.nil ?_
                refine X.then_ ?_
                refine R.list ?_
                refine S.val hf hs (v := .int .i64 b6) rfl rfl rfl (V.loadBox 0 rfl rfl rfl Try.isAgg3 Try.sizeOf3 rfl rfl) (fun a hf => ?_)
                refine S.val hf hs (v := .int .i64 (w64 (b6 + 1))) rfl rfl rfl (V.pure rfl) (fun a hf => ?_)
                refine S.storeBox 0 hf hs rfl rfl [.int .i64 (w64 (b6 + 1))] [.int .i64 (w64 (b6 + 1))] rfl rfl rfl rfl rfl Try.sizeOf3 rfl rfl rfl rfl (fun a w hf hs => ?_)
                refine R.nil ?_
                refine X.then_ ?_
                replace hs := hs.front 5 rfl
                replace hs := hs.front 5 rfl
                replace hs := hs.front 5 rfl
                replace hs := hs.front 5 rfl
                replace hs := hs.front 5 rfl
                replace hs := hs.take 6
                exact ⟨l7, l7A, l7C, g5, (w64 (b6 + 1)), n9, (by rw [hagain5] at h; exact h), (((((((hf.nil.cons (hf.get 15 _ rfl)).cons (hf.get 14 _ rfl)).cons (hf.get 13 _ rfl)).cons (hf.get 11 _ rfl)).cons (hf.get 8 _ rfl)).cons (hf.get 5 _ rfl)).cons (hf.get 0 _ rfl)), hs⟩
              · skip
                refine wp_block ?_
                refine wp_seq ?_
                refine R.list ?_
                refine S.val hf hs (v := .func (.func 19) #[] #[.pointer (some ⟨g3, 0, none⟩), .pointer (some ⟨g1, 0, none⟩), .pointer (some ⟨g2, 0, none⟩), .pointer (some ⟨gj2, 0, none⟩)]) rfl rfl rfl (V.pure rfl) (fun a hf => ?_)
                refine S.val hf hs (v := .func (.func 19) #[] #[.pointer (some ⟨g3, 0, none⟩), .pointer (some ⟨g1, 0, none⟩), .pointer (some ⟨g2, 0, none⟩), .pointer (some ⟨gj2, 0, none⟩)]) rfl rfl rfl (V.pure rfl) (fun a hf => ?_)
                refine R.nil ?_
                refine X.then_ ?_
                refine wp_seq ?_
                refine R.list ?_
                refine S.val hf hs (v := .func (.func 19) #[] #[.pointer (some ⟨g3, 0, none⟩), .pointer (some ⟨g1, 0, none⟩), .pointer (some ⟨g2, 0, none⟩), .pointer (some ⟨gj2, 0, none⟩)]) rfl rfl rfl (V.pure rfl) (fun a hf => ?_)
                refine S.val hf hs (v := .int .i64 n8) rfl rfl rfl (V.pure rfl) (fun a hf => ?_)
                refine S.val hf hs (v := .slice loadsA loads.length loadsC) rfl rfl rfl (V.pure rfl) (fun a hf => ?_)
                refine S.val hf hs (v := .int .i64 b6) rfl rfl rfl (V.loadBox 5 rfl rfl rfl Try.isAgg3 Try.sizeOf3 rfl rfl) (fun a hf => ?_)
                obtain ⟨h0x13, x13, hx13, h⟩ := h
                refine S.val hf hs (v := elemPtr loadsA (b6.toNat * 1)) rfl rfl rfl (V.index rfl rfl rfl Try.runUnderlying22 Try.sizeOf3 (hv_loads.some_ (lt_of_get hx13)) h0x13 (lt_of_get hx13) rfl) (fun a hf => ?_)
                refine S.val hf hs (v := .int .i64 x13) rfl rfl rfl (V.loadEl (off := 0) (Ag.args _ _ _) (hv_loads.flat hx13) rfl rfl rfl Try.isAgg3 Try.sizeOf3 rfl rfl) (fun a hf => ?_)
                refine S.val hf hs (v := .int .i64 (w64 (n8 + x13))) rfl rfl rfl (V.pure rfl) (fun a hf => ?_)
                refine S.call hf rfl rfl rfl (call_run (args := #[.int .i64 (w64 (n8 + x13)), .pointer (some ⟨g3, 0, none⟩), .pointer (some ⟨g1, 0, none⟩), .pointer (some ⟨g2, 0, none⟩), .pointer (some ⟨gj2, 0, none⟩)]) rfl rfl rfl Try.call19 (by simp)) (R_Balanced1 (w64 (n8 + x13)) b4 b2 l2 b6 _ g3 (hs.boxAt 3 rfl) g1 (hs.boxAt 0 rfl) l2A l2C (hs.rowsView 2 rfl) g2 (hs.boxAt 1 rfl) gj2 (hs.boxAt 5 rfl) _ h) (fun v a w' hf hr => ?_)
                obtain ⟨y2, rfl, h2, hs2⟩ := hr
                replace h := h2; replace hs := hs.call hs2; clear h2 hs2
                refine R.nil ?_
                refine X.then_ ?_
                refine C.cond hf (b := y2) rfl (fun hc => ?_) (fun hc => ?_)
                · replace h := h.1 hc
                  refine H.start (S := Sat w0 none_ [hbox g1 3 [.int .i64 b2], hbox g2 39 [.slice l2A l2.length l2C], hrows 29 4 l2A l2C l2as l2, hbox g3 3 [.int .i64 b4], hbox gj2 3 [.int .i64 b6]]) mo ?_
                  replace hs := hs.drew
                  refine H.val hf (hs.mask [true, true, true, true, false, true]) (v := .slice l6A l6.length l6C) (i := 0) rfl rfl rfl rfl (by kernel_rfl) (by kernel_rfl) (by kernel_rfl) (V.pure rfl) (fun a hf => ?_)
                  refine H.val hf (hs.mask [true, true, true, true, false, true]) (v := .int .i64 b6) (i := 1) rfl rfl rfl rfl (by kernel_rfl) (by kernel_rfl) (by kernel_rfl) (V.loadBox 4 rfl rfl rfl Try.isAgg3 Try.sizeOf3 rfl rfl) (fun a hf => ?_)
                  refine H.val hf (hs.mask [true, true, true, true, false, true]) (v := .int .i64 n8) (i := 4) rfl rfl rfl rfl (by kernel_rfl) (by kernel_rfl) (by kernel_rfl) (V.pure rfl) (fun a hf => ?_)
                  refine H.val hf (hs.mask [true, true, true, true, false, true]) (v := .slice loadsA loads.length loadsC) (i := 5) rfl rfl rfl rfl (by kernel_rfl) (by kernel_rfl) (by kernel_rfl) (V.pure rfl) (fun a hf => ?_)
                  refine H.val hf (hs.mask [true, true, true, true, false, true]) (v := .int .i64 b6) (i := 6) rfl rfl rfl rfl (by kernel_rfl) (by kernel_rfl) (by kernel_rfl) (V.loadBox 4 rfl rfl rfl Try.isAgg3 Try.sizeOf3 rfl rfl) (fun a hf => ?_)
                  refine H.val hf (hs.mask [true, true, true, true, false, true]) (v := elemPtr loadsA (b6.toNat * 1)) (i := 7) rfl rfl rfl rfl (by kernel_rfl) (by kernel_rfl) (by kernel_rfl) (V.index rfl rfl rfl Try.runUnderlying22 Try.sizeOf3 (hv_loads.some_ (lt_of_get hx13)) h0x13 (lt_of_get hx13) rfl) (fun a hf => ?_)
                  refine H.val hf (hs.mask [true, true, true, true, false, true]) (v := .int .i64 x13) (i := 8) rfl rfl rfl rfl (by kernel_rfl) (by kernel_rfl) (by kernel_rfl) (V.loadEl (off := 0) (Ag.args _ _ _) (hv_loads.flat hx13) rfl rfl rfl Try.isAgg3 Try.sizeOf3 rfl rfl) (fun a hf => ?_)
                  refine H.val hf (hs.mask [true, true, true, true, false, true]) (v := .int .i64 (w64 (n8 + x13))) (i := 9) rfl rfl rfl rfl (by kernel_rfl) (by kernel_rfl) (by kernel_rfl) (V.pure rfl) (fun a hf => ?_)
                  refine H.one (i := 2) rfl (by kernel_rfl) ?_
                  refine S.build1 hf hs rfl rfl rfl (α := Int) b6 rfl rfl rfl Try.runUnderlying22 Try.sizeOf3 Try.zeroValue3 rfl (by decide) (fun A4 a w hf hs => ?_)
                  refine R.nil ?_
                  refine X.then_ ?_
                  refine ⟨(hs.mask [false, true, true, true, true, false, true]), ?_⟩
                  refine H.one (i := 3) rfl (by kernel_rfl) ?_
                  obtain ⟨hroom, h⟩ := h
                  refine S.appendCells 5 hf hs rfl rfl rfl rfl rfl rfl rfl Try.underlying22 info3 rfl hroom ((hs.ownView 0 rfl).some_ (i := 0) (by simp)) (hs.ownView 0 rfl) (fun A5 C1 a w hf hs => ?_)
                  replace hs := hs.drop
                  refine R.nil ?_
                  refine X.then_ ?_
                  refine ⟨(hs.mask [true, true, true, true, false, true]), ?_⟩
                  refine H.val hf (hs.mask [true, true, true, true, false, true]) (v := .slice A5 (l6 ++ [b6]).length C1) (i := 10) rfl rfl rfl rfl (by kernel_rfl) (by kernel_rfl) (by kernel_rfl) (V.pure rfl) (fun a hf => ?_)
                  refine H.val hf (hs.mask [true, true, true, true, false, true]) (v := .int .i64 (w64 (n8 + x13))) (i := 11) rfl rfl rfl rfl (by kernel_rfl) (by kernel_rfl) (by kernel_rfl) (V.pure rfl) (fun a hf => ?_)
                  refine H.done (by kernel_rfl) ?_
                  refine X.blk ?_
                  refine X.then_ ?_
                  exact ⟨(l6 ++ [b6]), A5, C1, (w64 (n8 + x13)), h, (((((((hf.nil.cons (hf.get 15 _ rfl)).cons (hf.get 14 _ rfl)).cons (hf.get 13 _ rfl)).cons (hf.get 11 _ rfl)).cons (hf.get 8 _ rfl)).cons (hf.get 5 _ rfl)).cons (hf.get 0 _ rfl)), hs⟩
                · replace h := h.2 hc
                  refine wp_skip ?_
                  refine X.blk ?_
                  refine X.then_ ?_
                  exact ⟨l6, l6A, l6C, n8, h, (((((((hf.nil.cons (hf.get 15 _ rfl)).cons (hf.get 14 _ rfl)).cons (hf.get 13 _ rfl)).cons (hf.get 11 _ rfl)).cons (hf.get 8 _ rfl)).cons (hf.get 5 _ rfl)).cons (hf.get 0 _ rfl)), hs⟩
            · replace h := h.2 hc
              refine wp_exit ?_
              refine X.then_exit ?_
              refine X.then_exit ?_
              refine X.blk_exit ?_
              refine X.then_ ?_
              refine wp_seq ?_
              refine R.draw mo (by kernel_rfl) hs ?_
              refine D.val hf (v := .slice l6A l6.length l6C) rfl rfl rfl (V.pure rfl) (fun a hf => ?_)
              refine D.val hf (v := .int .i64 b4) rfl rfl rfl (V.loadBox 3 rfl rfl rfl Try.isAgg3 Try.sizeOf3 rfl rfl) (fun a hf => ?_)
              refine D.val hf (v := .slice l6A l6.length l6C) rfl rfl rfl (V.pure rfl) (fun a hf => ?_)
              refine D.val hf (v := .int .i64 b4) rfl rfl rfl (V.pure rfl) (fun a hf => ?_)
              refine D.val hf (v := .int .i64 0) rfl rfl rfl (V.pure rfl) (fun a hf => ?_)
              refine D.done (fun w hs => ?_)
              refine X.then_ ?_
              refine wp_ret ?_
              replace hs := hs.front 4 rfl
              replace hs := hs.take 1
              exact L.ret hf (run_results3 Try.results7 (ResIs.tmp hf rfl) (ResIs.tmp hf rfl) (ResIs.tmp hf rfl)) ⟨l6, l6A, l6C, b4, 0, rfl, h, hs⟩
    | cons xk1 llk1 =>
      have hltk1 := range_lt hkk1; have hc := range_go hkk1; have hxk1 := range_get hlk1
      obtain ⟨next1, hnext1⟩ : ∃ X : Int → Prop, X = (fun b2 => forIn' (fun k x (s : Int) next => M_mount_Balanced_L1 Q k x s (fun b2 => next b2)) (fun (s : Int) => (fun (b2 : Int) => cnd ((loads.length : Int) == 0) (Q ([] : List Int) 0 0) (must (0 ≤ w64 ((loads.length : Int) + 1) ∧ w64 ((loads.length : Int) + 1) * 24 ≤ 281474976710656) (must (0 ≤ w64 (b2 + 1) ∧ w64 (b2 + 1) * 1 ≤ 281474976710656) (idx (List.replicate ((w64 ((loads.length : Int) + 1)).toNat) ([] : (List Bool))) (loads.length : Int) fun x1 => idx (List.replicate ((w64 (b2 + 1)).toNat) false) 0 fun x2 => lp (fun again (s : List (List Bool) × Int) => M_mount_Balanced_L2 loads Q b2 (fun l2 n2 => again (l2, n2)) s.1 s.2) ((((List.replicate ((w64 ((loads.length : Int) + 1)).toNat) ([] : (List Bool))).set loads.length (List.replicate ((w64 (b2 + 1)).toNat) false)).set loads.length ((List.replicate ((w64 (b2 + 1)).toNat) false).set 0 true)), w64 ((loads.length : Int) - 1)))))) s) llk1 (k1 + 1) b2) := ⟨_, rfl⟩
      replace h : M_mount_Balanced_L1 Q k1 xk1 b2 next1 := by rw [hnext1]; exact h
      unfold M_mount_Balanced_L1 at h
      refine wp_seq ?_
      refine R.list ?_
      refine S.val hf hs (v := .bool true) rfl rfl rfl (V.cmp true rfl rfl rfl rfl hc) (fun a hf => ?_)
      refine R.nil ?_
      refine X.then_ ?_
      refine wp_seq ?_
      refine C.yes hf rfl ?_
      refine wp_skip ?_
      refine X.then_ ?_
      refine wp_seq ?_
      refine wp_block ?_
      refine wp_seq ?_
      refine R.list ?_
      refine S.val hf hs (v := elemPtr loadsA (k1 * 1)) rfl rfl rfl (V.index rfl rfl rfl Try.runUnderlying22 Try.sizeOf3 (hv_loads.some_ (lt_of_get hxk1)) (Int.natCast_nonneg _) (lt_of_get hxk1) rfl) (fun a hf => ?_)
      refine S.val hf hs (v := .int .i64 xk1) rfl rfl rfl (V.loadEl (off := 0) (Ag.args _ _ _) (hv_loads.flat hxk1) rfl rfl rfl Try.isAgg3 Try.sizeOf3 rfl rfl) (fun a hf => ?_)
      refine S.val hf hs (v := .int .i64 xk1) rfl rfl rfl (V.pure rfl) (fun a hf => ?_)
      refine R.nil ?_
      refine X.then_ ?_
      refine wp_seq ?_
      refine wp_seq ?_
      refine R.list ?_
      refine S.val hf hs (v := .int .i64 xk1) rfl rfl rfl (V.pure rfl) (fun a hf => ?_)
      refine S.callv hf rfl rfl rfl (call_fn (vs := [.int .i64 xk1, .int .i64 0, .int .i64 1000]) rfl rfl rfl Try.call17) (C_mount_within xk1 0 1000 _ ) (fun a w hf hs' => ?_)
      replace hs := hs.call hs'; clear hs'
      refine S.val hf hs (v := .bool (!(within xk1 0 1000))) rfl rfl rfl (V.pure rfl) (fun a hf => ?_)
      refine R.nil ?_
      refine X.then_ ?_
      refine C.cond hf (b := !(within xk1 0 1000)) rfl (fun hc => ?_) (fun hc => ?_)
      · replace h := h.1 hc
        refine wp_seq ?_
        refine R.list ?_
        refine S.val hf hs (v := .slice none 0 0) rfl rfl rfl (V.pure rfl) (fun a hf => ?_)
        refine S.val hf hs (v := .int .i64 0) rfl rfl rfl (V.pure rfl) (fun a hf => ?_)
        refine S.val hf hs (v := .int .i64 1) rfl rfl rfl (V.pure rfl) (fun a hf => ?_)
        refine R.nil ?_
        refine X.then_ ?_
        refine wp_ret ?_
        refine X.then_ret ?_
        refine X.blk_ret ?_
        refine X.then_ret ?_
        refine X.then_ret ?_
        refine X.blk_ret ?_
        refine X.then_ret ?_
        replace hs := hs.nilOwn (α := Int) 3
        replace hs := hs.take 1
        exact L.ret hf (run_results3 Try.results7 (ResIs.tmp hf rfl) (ResIs.tmp hf rfl) (ResIs.tmp hf rfl)) ⟨([] : List Int), none, 0, 0, 1, rfl, h, hs⟩
      · replace h := h.2 hc
        refine wp_skip ?_
        refine X.then_ ?_
        refine R.list ?_
        refine S.val hf hs (v := .int .i64 b2) rfl rfl rfl (V.loadBox 0 rfl rfl rfl Try.isAgg3 Try.sizeOf3 rfl rfl) (fun a hf => ?_)
        refine S.val hf hs (v := .int .i64 xk1) rfl rfl rfl (V.pure rfl) (fun a hf => ?_)
        refine S.val hf hs (v := .int .i64 (w64 (b2 + xk1))) rfl rfl rfl (V.pure rfl) (fun a hf => ?_)
        refine S.storeBox 0 hf hs rfl rfl [.int .i64 (w64 (b2 + xk1))] [.int .i64 (w64 (b2 + xk1))] rfl rfl rfl rfl rfl Try.sizeOf3 rfl rfl rfl rfl (fun a w hf hs => ?_)
        refine R.nil ?_
        refine X.blk ?_
        refine X.then_ ?_
        refine R.list ?_
        refine S.val hf hs (v := .int .i64 ((k1 + 1 : Nat) : Int)) rfl rfl rfl (V.incr rfl rfl rfl hltk1 hlenk1) (fun a hf => ?_)
        refine S.val hf hs (v := .int .i64 ((k1 + 1 : Nat) : Int)) rfl rfl rfl (V.pure rfl) (fun a hf => ?_)
        refine R.nil ?_
        refine X.then_ ?_
        exact ⟨xk1, llk1, rfl, k1 + 1, (w64 (b2 + xk1)), range_drop hlk1, range_len hkk1, (by rw [hnext1] at h; exact h), (((((hf.nil.cons (hf.get 21 _ rfl)).cons (hf.get 20 _ rfl)).cons (hf.get 5 _ rfl)).cons (hf.get 0 _ rfl)).cons (hf.get 22 _ rfl)), hs⟩

set_option linter.unusedVariables false
def M_ref10_sums_L3 (n2 : Int) (n4 : Int) (again2 : List (List Bool) → Int → Prop) (x5 : Int) (again3 : List (List Bool) → Int → Prop) (l4 : List (List Bool)) (n6 : Int) : Prop :=
  cnd (decide (n6 ≤ n2)) (idx l4 n4 fun x6 => idx x6 n6 fun x7 => cnd x7 (again3 (l4.set n4.toNat (x6.set n6.toNat true)) (w64 (n6 + 1))) (idx l4 (w64 (n4 + 1)) fun x8 => idx x8 (w64 (n6 - x5)) fun x9 => again3 (l4.set n4.toNat (x6.set n6.toNat x9)) (w64 (n6 + 1)))) (again2 l4 (w64 (n4 - 1)))
def M_ref10_sums_L2 (l : (List Int)) (Q : (List (List Bool)) → Prop) (n2 : Int) (again2 : List (List Bool) → Int → Prop) (l2 : List (List Bool)) (n4 : Int) : Prop :=
  cnd (decide (n4 ≥ 0)) (idx l2 (w64 (n4 + 1)) fun x3 => M_clone_bool x3 fun y1 => idx l2 n4 fun x4 => idx l n4 fun x5 => lp (fun again (s : List (List Bool) × Int) => M_ref10_sums_L3 n2 n4 again2 x5 (fun l4 n6 => again (l4, n6)) s.1 s.2) ((l2.set n4.toNat y1), x5)) (Q l2)
def M_ref10_sums_L1  (k1 : Nat) (xk1 : Int) (n2 : Int) (next1 : Int → Prop) : Prop :=
  next1 (w64 (n2 + xk1))
def M_ref10_sums (l : (List Int)) (Q : (List (List Bool)) → Prop) : Prop :=
  forIn' (fun k x (s : Int) next => M_ref10_sums_L1 k x s (fun n2 => next n2)) (fun (s : Int) => (fun (n2 : Int) => must (0 ≤ w64 ((l.length : Int) + 1) ∧ w64 ((l.length : Int) + 1) * 24 ≤ 281474976710656) (must (0 ≤ w64 (n2 + 1) ∧ w64 (n2 + 1) * 1 ≤ 281474976710656) (idx (List.replicate ((w64 ((l.length : Int) + 1)).toNat) ([] : (List Bool))) (l.length : Int) fun x1 => idx (List.replicate ((w64 (n2 + 1)).toNat) false) 0 fun x2 => lp (fun again (s : List (List Bool) × Int) => M_ref10_sums_L2 l Q n2 (fun l2 n4 => again (l2, n4)) s.1 s.2) ((((List.replicate ((w64 ((l.length : Int) + 1)).toNat) ([] : (List Bool))).set l.length (List.replicate ((w64 (n2 + 1)).toNat) false)).set l.length ((List.replicate ((w64 (n2 + 1)).toNat) false).set 0 true)), w64 ((l.length : Int) - 1))))) s) l 0 0
set_option maxHeartbeats 1000000 in
theorem R_ref10_sums (l : (List Int)) (w0 : World) (lA : Option Addr) (lC : Nat) (hv_l : View w0 (old w0 none_) lA lC l) (Q : (List (List Bool)) → Prop) (h : M_ref10_sums l Q) :
    Ret Try.prog 21 #[.slice lA l.length lC] w0 fun v w' => ∃ (r0 : (List (List Bool))) (r0A : Option Addr) (r0C : Nat) (r0as : List (Option Addr × Nat)), v = .slice r0A r0.length r0C ∧ Q r0 ∧ Sat w0 none_ [hrows 29 4 r0A r0C r0as r0] w' := by
  refine fn_enter Try.func21 rfl Try.ntmps21 rfl (fs := [(0, .slice lA l.length lC)]) rfl (fun a hf => ?_)
  have hs := Sat.start w0 none_
  unfold M_ref10_sums at h
  refine wp_seq ?_
  refine R.list ?_
  refine S.val hf hs (v := .slice none 0 0) rfl rfl rfl (V.pure rfl) (fun a hf => ?_)
  refine R.nil ?_
  refine X.then_ ?_
  refine wp_seq ?_
  refine R.list ?_
  refine S.val hf hs (v := .int .i64 0) rfl rfl rfl (V.pure rfl) (fun a hf => ?_)
  refine R.nil ?_
  refine X.then_ ?_
  refine wp_seq ?_
  refine wp_seq ?_
  refine R.list ?_
  refine S.val hf hs (v := .slice lA l.length lC) rfl rfl rfl (V.pure rfl) (fun a hf => ?_)
  refine S.val hf hs (v := .int .i64 (l.length : Int)) rfl rfl rfl (V.len rfl rfl Try.runUnderlying22) (fun a hf => ?_)
  refine S.val hf hs (v := .int .i64 0) rfl rfl rfl (V.pure rfl) (fun a hf => ?_)
  refine R.nil ?_
  refine X.then_ ?_
  refine wp_block ?_
  have hlenk1 := hv_l.len64
  refine C.range (fun (ll : List Int) a w => ∃ (k1 : Nat) (n2 : Int), l.drop k1 = ll ∧ k1 + ll.length = l.length ∧ forIn' (fun k x (s : Int) next => M_ref10_sums_L1 k x s (fun n2 => next n2)) (fun (s : Int) => (fun (n2 : Int) => must (0 ≤ w64 ((l.length : Int) + 1) ∧ w64 ((l.length : Int) + 1) * 24 ≤ 281474976710656) (must (0 ≤ w64 (n2 + 1) ∧ w64 (n2 + 1) * 1 ≤ 281474976710656) (idx (List.replicate ((w64 ((l.length : Int) + 1)).toNat) ([] : (List Bool))) (l.length : Int) fun x1 => idx (List.replicate ((w64 (n2 + 1)).toNat) false) 0 fun x2 => lp (fun again (s : List (List Bool) × Int) => M_ref10_sums_L2 l Q n2 (fun l2 n4 => again (l2, n4)) s.1 s.2) ((((List.replicate ((w64 ((l.length : Int) + 1)).toNat) ([] : (List Bool))).set l.length (List.replicate ((w64 (n2 + 1)).toNat) false)).set l.length ((List.replicate ((w64 (n2 + 1)).toNat) false).set 0 true)), w64 ((l.length : Int) - 1))))) s) ll k1 n2 ∧ FrOk 90 [(11, .int .i64 (k1 : Int)), (0, .slice lA l.length lC), (3, .int .i64 n2), (9, .slice lA l.length lC), (10, .int .i64 (l.length : Int))] a ∧ Sat w0 none_ [] w) l ⟨0, 0, rfl, Nat.zero_add _, h, (((((hf.nil.cons (hf.get 10 _ rfl)).cons (hf.get 9 _ rfl)).cons (hf.get 3 _ rfl)).cons (hf.get 0 _ rfl)).cons (hf.get 11 _ rfl)), hs⟩ ?_
  clear h hf hs
  rintro llk1 a w ⟨k1, n2, hlk1, hkk1, h, hf, hs⟩
  cases llk1 with
  | nil =>
    have hc := range_done hkk1
    replace h : (fun (n2 : Int) => must (0 ≤ w64 ((l.length : Int) + 1) ∧ w64 ((l.length : Int) + 1) * 24 ≤ 281474976710656) (must (0 ≤ w64 (n2 + 1) ∧ w64 (n2 + 1) * 1 ≤ 281474976710656) (idx (List.replicate ((w64 ((l.length : Int) + 1)).toNat) ([] : (List Bool))) (l.length : Int) fun x1 => idx (List.replicate ((w64 (n2 + 1)).toNat) false) 0 fun x2 => lp (fun again (s : List (List Bool) × Int) => M_ref10_sums_L2 l Q n2 (fun l2 n4 => again (l2, n4)) s.1 s.2) ((((List.replicate ((w64 ((l.length : Int) + 1)).toNat) ([] : (List Bool))).set l.length (List.replicate ((w64 (n2 + 1)).toNat) false)).set l.length ((List.replicate ((w64 (n2 + 1)).toNat) false).set 0 true)), w64 ((l.length : Int) - 1))))) n2 := h
    refine wp_seq ?_
    refine R.list ?_
    refine S.val hf hs (v := .bool false) rfl rfl rfl (V.cmp false rfl rfl rfl rfl hc) (fun a hf => ?_)
    refine R.nil ?_
    refine X.then_ ?_
    refine wp_seq ?_
    refine C.no hf rfl ?_
    refine wp_exit ?_
    refine X.then_exit ?_
    refine X.then_exit ?_
    refine X.blk_exit ?_
    refine X.then_ ?_
    refine wp_seq ?_
    refine R.list ?_
    refine S.val hf hs (v := .slice lA l.length lC) rfl rfl rfl (V.pure rfl) (fun a hf => ?_)
    refine S.val hf hs (v := .int .i64 (l.length : Int)) rfl rfl rfl (V.len rfl rfl Try.runUnderlying22) (fun a hf => ?_)
    refine S.val hf hs (v := .int .i64 (w64 ((l.length : Int) + 1))) rfl rfl rfl (V.pure rfl) (fun a hf => ?_)
    obtain ⟨hmk, h⟩ := h
    refine S.makeRows hf hs rfl rfl rfl ([] : (List Bool)) (z := (w64 ((l.length : Int) + 1))) (N := (w64 ((l.length : Int) + 1)).toNat) 4 rfl rfl rfl rfl Try.underlying39 info29 hmk rfl (by have := hmk.2; omega) (fun A1 a w hf hs => ?_)
    refine S.val hf hs (v := .slice A1 (List.replicate ((w64 ((l.length : Int) + 1)).toNat) ([] : (List Bool))).length ((w64 ((l.length : Int) + 1)).toNat)) rfl rfl rfl (V.pure rfl) (fun a hf => ?_)
    refine R.nil ?_
    refine X.then_ ?_
    refine wp_seq ?_
    refine R.list ?_
    refine S.val hf hs (v := .slice A1 (List.replicate ((w64 ((l.length : Int) + 1)).toNat) ([] : (List Bool))).length ((w64 ((l.length : Int) + 1)).toNat)) rfl rfl rfl (V.pure rfl) (fun a hf => ?_)
    refine S.val hf hs (v := .slice lA l.length lC) rfl rfl rfl (V.pure rfl) (fun a hf => ?_)
    refine S.val hf hs (v := .int .i64 (l.length : Int)) rfl rfl rfl (V.len rfl rfl Try.runUnderlying22) (fun a hf => ?_)
    refine S.val hf hs (v := .int .i64 n2) rfl rfl rfl (V.pure rfl) (fun a hf => ?_)
    refine S.val hf hs (v := .int .i64 (w64 (n2 + 1))) rfl rfl rfl (V.pure rfl) (fun a hf => ?_)
    obtain ⟨hmk, h⟩ := h
    refine S.make hf hs rfl rfl rfl (α := Bool) false (z := (w64 (n2 + 1))) (N := (w64 (n2 + 1)).toNat) rfl rfl rfl Try.underlying29 info4 hmk rfl (by have := hmk.2; omega) (fun A2 a w hf hs => ?_)
    obtain ⟨h0x1, x1, hx1, h⟩ := h
    refine S.val hf hs (v := elemPtr A1 (l.length * 1)) rfl rfl rfl (V.index rfl rfl rfl Try.runUnderlying39 Try.sizeOf29 (hs.rowsSome 1 rfl hx1) (Int.natCast_nonneg _) (lt_of_get hx1) rfl) (fun a hf => ?_)
    obtain ⟨B1, D1, hrB1⟩ := hs.rowAt 1 rfl hx1
    refine S.putRow (off := 0) 0 hf hs rfl rfl (List.replicate ((w64 (n2 + 1)).toNat) false) [.slice A2 (List.replicate ((w64 (n2 + 1)).toNat) false).length ((w64 (n2 + 1)).toNat)] rfl hx1 hrB1 rfl rfl rfl rfl rfl rfl Try.sizeOf29 rfl (by decide) rfl rfl (fun a w hf hs => ?_)
    replace hf := hf.tell 6 (v := .slice A1 ((List.replicate ((w64 ((l.length : Int) + 1)).toNat) ([] : (List Bool))).set l.length (List.replicate ((w64 (n2 + 1)).toNat) false)).length ((w64 ((l.length : Int) + 1)).toNat)) ((hf.get 6 (.slice A1 (List.replicate ((w64 ((l.length : Int) + 1)).toNat) ([] : (List Bool))).length ((w64 ((l.length : Int) + 1)).toNat)) rfl).trans (congrArg (fun n => Value.slice A1 n ((w64 ((l.length : Int) + 1)).toNat)) List.length_set.symm))
    replace hf := hf.tell 22 (v := .slice A1 ((List.replicate ((w64 ((l.length : Int) + 1)).toNat) ([] : (List Bool))).set l.length (List.replicate ((w64 (n2 + 1)).toNat) false)).length ((w64 ((l.length : Int) + 1)).toNat)) ((hf.get 22 (.slice A1 (List.replicate ((w64 ((l.length : Int) + 1)).toNat) ([] : (List Bool))).length ((w64 ((l.length : Int) + 1)).toNat)) rfl).trans (congrArg (fun n => Value.slice A1 n ((w64 ((l.length : Int) + 1)).toNat)) List.length_set.symm))
    replace hf := hf.tell 23 (v := .slice A1 ((List.replicate ((w64 ((l.length : Int) + 1)).toNat) ([] : (List Bool))).set l.length (List.replicate ((w64 (n2 + 1)).toNat) false)).length ((w64 ((l.length : Int) + 1)).toNat)) ((hf.get 23 (.slice A1 (List.replicate ((w64 ((l.length : Int) + 1)).toNat) ([] : (List Bool))).length ((w64 ((l.length : Int) + 1)).toNat)) rfl).trans (congrArg (fun n => Value.slice A1 n ((w64 ((l.length : Int) + 1)).toNat)) List.length_set.symm))
    have hx1 : ((List.replicate ((w64 ((l.length : Int) + 1)).toNat) ([] : (List Bool))).set l.length (List.replicate ((w64 (n2 + 1)).toNat) false))[l.length]? = some (List.replicate ((w64 (n2 + 1)).toNat) false) := List.getElem?_set_self (lt_of_get hx1)
    have hr1 : ((List.replicate ((w64 ((l.length : Int) + 1)).toNat) ((none : Option Addr), 0)).set l.length (A2, (w64 (n2 + 1)).toNat))[l.length]? = some (A2, (w64 (n2 + 1)).toNat) := List.getElem?_set_self (lt_of_get hrB1)
    refine R.nil ?_
    refine X.then_ ?_
    refine wp_seq ?_
    refine R.list ?_
    refine S.val hf hs (v := .slice A1 ((List.replicate ((w64 ((l.length : Int) + 1)).toNat) ([] : (List Bool))).set l.length (List.replicate ((w64 (n2 + 1)).toNat) false)).length ((w64 ((l.length : Int) + 1)).toNat)) rfl rfl rfl (V.pure rfl) (fun a hf => ?_)
    refine S.val hf hs (v := .slice lA l.length lC) rfl rfl rfl (V.pure rfl) (fun a hf => ?_)
    refine S.val hf hs (v := .int .i64 (l.length : Int)) rfl rfl rfl (V.len rfl rfl Try.runUnderlying22) (fun a hf => ?_)
    refine S.val hf hs (v := elemPtr A1 (l.length * 1)) rfl rfl rfl (V.index rfl rfl rfl Try.runUnderlying39 Try.sizeOf29 (hs.rowsSome 0 rfl hx1) (Int.natCast_nonneg _) (lt_of_get hx1) rfl) (fun a hf => ?_)
    refine S.val hf hs (v := .slice A2 (List.replicate ((w64 (n2 + 1)).toNat) false).length ((w64 (n2 + 1)).toNat)) rfl rfl rfl (V.loadRows (off := 0) 0 rfl hx1 hr1 rfl rfl rfl Try.isAgg29 Try.sizeOf29 rfl rfl) (fun a hf => ?_)
    obtain ⟨h0x2, x2, hx2, h⟩ := h
    refine S.val hf hs (v := elemPtr A2 (0 * 1)) rfl rfl rfl (V.index rfl rfl rfl Try.runUnderlying29 Try.sizeOf4 ((hs.rowView 0 rfl hx1 hr1).some_ (lt_of_get hx2)) h0x2 (lt_of_get hx2) rfl) (fun a hf => ?_)
    refine S.storeRowEl (off := 0) 0 hf hs rfl rfl ((List.replicate ((w64 (n2 + 1)).toNat) false).set 0 true) true [.bool true] rfl hx1 hr1 hx2 rfl (row_same _ _ List.length_set _ _) rfl rfl rfl rfl rfl Try.sizeOf4 rfl (by decide) rfl rfl (fun a w hf hs => ?_)
    replace hf := hf.tell 6 (v := .slice A1 (((List.replicate ((w64 ((l.length : Int) + 1)).toNat) ([] : (List Bool))).set l.length (List.replicate ((w64 (n2 + 1)).toNat) false)).set l.length ((List.replicate ((w64 (n2 + 1)).toNat) false).set 0 true)).length ((w64 ((l.length : Int) + 1)).toNat)) ((hf.get 6 (.slice A1 ((List.replicate ((w64 ((l.length : Int) + 1)).toNat) ([] : (List Bool))).set l.length (List.replicate ((w64 (n2 + 1)).toNat) false)).length ((w64 ((l.length : Int) + 1)).toNat)) rfl).trans (congrArg (fun n => Value.slice A1 n ((w64 ((l.length : Int) + 1)).toNat)) List.length_set.symm))
    replace hf := hf.tell 22 (v := .slice A1 (((List.replicate ((w64 ((l.length : Int) + 1)).toNat) ([] : (List Bool))).set l.length (List.replicate ((w64 (n2 + 1)).toNat) false)).set l.length ((List.replicate ((w64 (n2 + 1)).toNat) false).set 0 true)).length ((w64 ((l.length : Int) + 1)).toNat)) ((hf.get 22 (.slice A1 ((List.replicate ((w64 ((l.length : Int) + 1)).toNat) ([] : (List Bool))).set l.length (List.replicate ((w64 (n2 + 1)).toNat) false)).length ((w64 ((l.length : Int) + 1)).toNat)) rfl).trans (congrArg (fun n => Value.slice A1 n ((w64 ((l.length : Int) + 1)).toNat)) List.length_set.symm))
    replace hf := hf.tell 23 (v := .slice A1 (((List.replicate ((w64 ((l.length : Int) + 1)).toNat) ([] : (List Bool))).set l.length (List.replicate ((w64 (n2 + 1)).toNat) false)).set l.length ((List.replicate ((w64 (n2 + 1)).toNat) false).set 0 true)).length ((w64 ((l.length : Int) + 1)).toNat)) ((hf.get 23 (.slice A1 ((List.replicate ((w64 ((l.length : Int) + 1)).toNat) ([] : (List Bool))).set l.length (List.replicate ((w64 (n2 + 1)).toNat) false)).length ((w64 ((l.length : Int) + 1)).toNat)) rfl).trans (congrArg (fun n => Value.slice A1 n ((w64 ((l.length : Int) + 1)).toNat)) List.length_set.symm))
    replace hf := hf.tell 30 (v := .slice A1 (((List.replicate ((w64 ((l.length : Int) + 1)).toNat) ([] : (List Bool))).set l.length (List.replicate ((w64 (n2 + 1)).toNat) false)).set l.length ((List.replicate ((w64 (n2 + 1)).toNat) false).set 0 true)).length ((w64 ((l.length : Int) + 1)).toNat)) ((hf.get 30 (.slice A1 ((List.replicate ((w64 ((l.length : Int) + 1)).toNat) ([] : (List Bool))).set l.length (List.replicate ((w64 (n2 + 1)).toNat) false)).length ((w64 ((l.length : Int) + 1)).toNat)) rfl).trans (congrArg (fun n => Value.slice A1 n ((w64 ((l.length : Int) + 1)).toNat)) List.length_set.symm))
    have hx2 : (((List.replicate ((w64 ((l.length : Int) + 1)).toNat) ([] : (List Bool))).set l.length (List.replicate ((w64 (n2 + 1)).toNat) false)).set l.length ((List.replicate ((w64 (n2 + 1)).toNat) false).set 0 true))[l.length]? = some ((List.replicate ((w64 (n2 + 1)).toNat) false).set 0 true) := List.getElem?_set_self (lt_of_get hx1)
    replace hf := hf.tell 28 (v := .slice A2 ((List.replicate ((w64 (n2 + 1)).toNat) false).set 0 true).length ((w64 (n2 + 1)).toNat)) ((hf.get 28 (.slice A2 (List.replicate ((w64 (n2 + 1)).toNat) false).length ((w64 (n2 + 1)).toNat)) rfl).trans (congrArg (fun n => Value.slice A2 n ((w64 (n2 + 1)).toNat)) List.length_set.symm))
    replace hf := hf.tell 34 (v := .slice A2 ((List.replicate ((w64 (n2 + 1)).toNat) false).set 0 true).length ((w64 (n2 + 1)).toNat)) ((hf.get 34 (.slice A2 (List.replicate ((w64 (n2 + 1)).toNat) false).length ((w64 (n2 + 1)).toNat)) rfl).trans (congrArg (fun n => Value.slice A2 n ((w64 (n2 + 1)).toNat)) List.length_set.symm))
    refine R.nil ?_
    refine X.then_ ?_
    refine wp_seq ?_
    refine wp_seq ?_
    refine R.list ?_
    refine S.val hf hs (v := .slice lA l.length lC) rfl rfl rfl (V.pure rfl) (fun a hf => ?_)
    refine S.val hf hs (v := .int .i64 (l.length : Int)) rfl rfl rfl (V.len rfl rfl Try.runUnderlying22) (fun a hf => ?_)
    refine S.val hf hs (v := .int .i64 (w64 ((l.length : Int) - 1))) rfl rfl rfl (V.pure rfl) (fun a hf => ?_)
    refine S.val hf hs (v := .int .i64 (w64 ((l.length : Int) - 1))) rfl rfl rfl (V.pure rfl) (fun a hf => ?_)
    refine R.nil ?_
    refine X.then_ ?_
    refine wp_block ?_
    obtain ⟨kk, h⟩ := h
    refine C.loop (fun kk a w => ∃ (l2 : List (List Bool)) (l2A : Option Addr) (l2C : Nat) (l2as : List (Option Addr × Nat)) (n4 : Int), iterF (fun again (s : List (List Bool) × Int) => M_ref10_sums_L2 l Q n2 (fun l2 n4 => again (l2, n4)) s.1 s.2) kk (l2, n4) ∧ FrOk 90 [(0, .slice lA l.length lC), (3, .int .i64 n2), (6, .slice l2A l2.length l2C), (7, .int .i64 n4)] a ∧ Sat w0 none_ [hrows 29 4 l2A l2C l2as l2] w) kk ⟨(((List.replicate ((w64 ((l.length : Int) + 1)).toNat) ([] : (List Bool))).set l.length (List.replicate ((w64 (n2 + 1)).toNat) false)).set l.length ((List.replicate ((w64 (n2 + 1)).toNat) false).set 0 true)), A1, ((w64 ((l.length : Int) + 1)).toNat), ((List.replicate ((w64 ((l.length : Int) + 1)).toNat) ((none : Option Addr), 0)).set l.length (A2, (w64 (n2 + 1)).toNat)), (w64 ((l.length : Int) - 1)), h, ((((hf.nil.cons (hf.get 7 _ rfl)).cons (hf.get 6 _ rfl)).cons (hf.get 3 _ rfl)).cons (hf.get 0 _ rfl)), hs⟩ (fun a w ⟨_, _, _, _, _, h, _, _⟩ => h) ?_
    clear h hf hs
    rintro kk a w ⟨l2, l2A, l2C, l2as, n4, h, hf, hs⟩
    obtain ⟨again2, hagain2⟩ : ∃ X : List (List Bool) → Int → Prop, X = (fun l2 n4 => iterF (fun again (s : List (List Bool) × Int) => M_ref10_sums_L2 l Q n2 (fun l2 n4 => again (l2, n4)) s.1 s.2) kk (l2, n4)) := ⟨_, rfl⟩
    replace h : M_ref10_sums_L2 l Q n2 again2 l2 n4 := by rw [hagain2]; exact h
    unfold M_ref10_sums_L2 at h
    refine wp_seq ?_
    refine wp_seq ?_
    refine R.list ?_
    refine S.val hf hs (v := .int .i64 n4) rfl rfl rfl (V.pure rfl) (fun a hf => ?_)
    refine S.val hf hs (v := .bool (decide (n4 ≥ 0))) rfl rfl rfl (V.pure rfl) (fun a hf => ?_)
    refine R.nil ?_
    refine X.then_ ?_
    refine C.cond hf (b := decide (n4 ≥ 0)) rfl (fun hc => ?_) (fun hc => ?_)
    · replace h := h.1 hc
      refine wp_skip ?_
      refine X.then_ ?_
      refine wp_seq ?_
      refine wp_block ?_
      refine wp_seq ?_
      refine R.list ?_
      refine S.val hf hs (v := .slice l2A l2.length l2C) rfl rfl rfl (V.pure rfl) (fun a hf => ?_)
      refine S.val hf hs (v := .int .i64 n4) rfl rfl rfl (V.pure rfl) (fun a hf => ?_)
      refine S.val hf hs (v := .slice l2A l2.length l2C) rfl rfl rfl (V.pure rfl) (fun a hf => ?_)
      refine S.val hf hs (v := .int .i64 n4) rfl rfl rfl (V.pure rfl) (fun a hf => ?_)
      refine S.val hf hs (v := .int .i64 (w64 (n4 + 1))) rfl rfl rfl (V.pure rfl) (fun a hf => ?_)
      obtain ⟨h0x3, x3, hx3, h⟩ := h
      refine S.val hf hs (v := elemPtr l2A ((w64 (n4 + 1)).toNat * 1)) rfl rfl rfl (V.index rfl rfl rfl Try.runUnderlying39 Try.sizeOf29 (hs.rowsSome 0 rfl hx3) h0x3 (lt_of_get hx3) rfl) (fun a hf => ?_)
      obtain ⟨B2, D2, hrB2⟩ := hs.rowAt 0 rfl hx3
      refine S.val hf hs (v := .slice B2 x3.length D2) rfl rfl rfl (V.loadRows (off := 0) 0 rfl hx3 hrB2 rfl rfl rfl Try.isAgg29 Try.sizeOf29 rfl rfl) (fun a hf => ?_)
      refine S.call hf rfl rfl rfl (call_fn (vs := [.slice B2 x3.length D2]) rfl rfl rfl Try.call18) (R_clone_bool x3 _ B2 D2 (hs.rowView 0 rfl hx3 hrB2) _ h) (fun v a w' hf hr => ?_)
      obtain ⟨y1, y1A, y1C, rfl, h2, hs2⟩ := hr
      replace h := h2; replace hs := hs.call hs2; clear h2 hs2
      obtain ⟨h0x4, x4, hx4, h⟩ := h
      refine S.val hf hs (v := elemPtr l2A (n4.toNat * 1)) rfl rfl rfl (V.index rfl rfl rfl Try.runUnderlying39 Try.sizeOf29 (hs.rowsSome 1 rfl hx4) h0x4 (lt_of_get hx4) rfl) (fun a hf => ?_)
      obtain ⟨B3, D3, hrB3⟩ := hs.rowAt 1 rfl hx4
      refine S.putRow (off := 0) 0 hf hs rfl rfl y1 [.slice y1A y1.length y1C] rfl hx4 hrB3 rfl rfl rfl rfl rfl rfl Try.sizeOf29 rfl (by decide) rfl rfl (fun a w hf hs => ?_)
      replace hf := hf.tell 6 (v := .slice l2A (l2.set n4.toNat y1).length l2C) ((hf.get 6 (.slice l2A l2.length l2C) rfl).trans (congrArg (fun n => Value.slice l2A n l2C) List.length_set.symm))
      replace hf := hf.tell 43 (v := .slice l2A (l2.set n4.toNat y1).length l2C) ((hf.get 43 (.slice l2A l2.length l2C) rfl).trans (congrArg (fun n => Value.slice l2A n l2C) List.length_set.symm))
      replace hf := hf.tell 45 (v := .slice l2A (l2.set n4.toNat y1).length l2C) ((hf.get 45 (.slice l2A l2.length l2C) rfl).trans (congrArg (fun n => Value.slice l2A n l2C) List.length_set.symm))
      have hx3 : (l2.set n4.toNat y1)[n4.toNat]? = some y1 := List.getElem?_set_self (lt_of_get hx4)
      have hr2 : (l2as.set n4.toNat (y1A, y1C))[n4.toNat]? = some (y1A, y1C) := List.getElem?_set_self (lt_of_get hrB3)
      refine R.nil ?_
      refine X.then_ ?_
      refine wp_seq ?_
      refine R.list ?_
      refine S.val hf hs (v := .slice lA l.length lC) rfl rfl rfl (V.pure rfl) (fun a hf => ?_)
      refine S.val hf hs (v := .int .i64 n4) rfl rfl rfl (V.pure rfl) (fun a hf => ?_)
      obtain ⟨h0x5, x5, hx5, h⟩ := h
      refine S.val hf hs (v := elemPtr lA (n4.toNat * 1)) rfl rfl rfl (V.index rfl rfl rfl Try.runUnderlying22 Try.sizeOf3 (hv_l.some_ (lt_of_get hx5)) h0x5 (lt_of_get hx5) rfl) (fun a hf => ?_)
      refine S.val hf hs (v := .int .i64 x5) rfl rfl rfl (V.loadEl (off := 0) (Ag.args _ _ _) (hv_l.flat hx5) rfl rfl rfl Try.isAgg3 Try.sizeOf3 rfl rfl) (fun a hf => ?_)
      refine S.val hf hs (v := .int .i64 x5) rfl rfl rfl (V.pure rfl) (fun a hf => ?_)
      refine R.nil ?_
      refine X.then_ ?_
      refine wp_block ?_
      obtain ⟨kk, h⟩ := h
      refine C.loop (fun kk a w => ∃ (l4 : List (List Bool)) (l4A : Option Addr) (l4C : Nat) (l4as : List (Option Addr × Nat)) (n6 : Int), iterF (fun again (s : List (List Bool) × Int) => M_ref10_sums_L3 n2 n4 again2 x5 (fun l4 n6 => again (l4, n6)) s.1 s.2) kk (l4, n6) ∧ FrOk 90 [(0, .slice lA l.length lC), (3, .int .i64 n2), (6, .slice l4A l4.length l4C), (7, .int .i64 n4), (8, .int .i64 n6)] a ∧ Sat w0 none_ [hrows 29 4 l4A l4C l4as l4] w) kk ⟨(l2.set n4.toNat y1), l2A, l2C, (l2as.set n4.toNat (y1A, y1C)), x5, h, (((((hf.nil.cons (hf.get 8 _ rfl)).cons (hf.get 7 _ rfl)).cons (hf.get 6 _ rfl)).cons (hf.get 3 _ rfl)).cons (hf.get 0 _ rfl)), hs⟩ (fun a w ⟨_, _, _, _, _, h, _, _⟩ => h) ?_
      clear h hf hs
      rintro kk a w ⟨l4, l4A, l4C, l4as, n6, h, hf, hs⟩
      obtain ⟨again3, hagain3⟩ : ∃ X : List (List Bool) → Int → Prop, X = (fun l4 n6 => iterF (fun again (s : List (List Bool) × Int) => M_ref10_sums_L3 n2 n4 again2 x5 (fun l4 n6 => again (l4, n6)) s.1 s.2) kk (l4, n6)) := ⟨_, rfl⟩
      replace h : M_ref10_sums_L3 n2 n4 again2 x5 again3 l4 n6 := by rw [hagain3]; exact h
      unfold M_ref10_sums_L3 at h
      refine wp_seq ?_
      refine wp_seq ?_
      refine R.list ?_
      refine S.val hf hs (v := .int .i64 n6) rfl rfl rfl (V.pure rfl) (fun a hf => ?_)
      refine S.val hf hs (v := .int .i64 n2) rfl rfl rfl (V.pure rfl) (fun a hf => ?_)
      refine S.val hf hs (v := .bool (decide (n6 ≤ n2))) rfl rfl rfl (V.pure rfl) (fun a hf => ?_)
      refine R.nil ?_
      refine X.then_ ?_
      refine C.cond hf (b := decide (n6 ≤ n2)) rfl (fun hc => ?_) (fun hc => ?_)
      · replace h := h.1 hc
        refine wp_skip ?_
        refine X.then_ ?_
        refine wp_seq ?_
        refine wp_block ?_
        refine M.start 28 (Sat w0 none_ [hrows 29 4 l4A l4C l4as l4]) mo ?_
        replace hs := hs.drew
        refine M.val hf hs (v := .slice l4A l4.length l4C) (i := 0) rfl rfl rfl rfl (by kernel_rfl) (by kernel_rfl) (by kernel_rfl) (by kernel_rfl) (by kernel_rfl) rfl (V.pure rfl) (fun a hf => ?_)
        refine M.val hf hs (v := .int .i64 n4) (i := 1) rfl rfl rfl rfl (by kernel_rfl) (by kernel_rfl) (by kernel_rfl) (by kernel_rfl) (by kernel_rfl) rfl (V.pure rfl) (fun a hf => ?_)
        obtain ⟨h0x6, x6, hx6, h⟩ := h
        refine M.val hf hs (v := elemPtr l4A (n4.toNat * 1)) (i := 2) rfl rfl rfl rfl (by kernel_rfl) (by kernel_rfl) (by kernel_rfl) (by kernel_rfl) (by kernel_rfl) rfl (V.index rfl rfl rfl Try.runUnderlying39 Try.sizeOf29 (hs.rowsSome 0 rfl hx6) h0x6 (lt_of_get hx6) rfl) (fun a hf => ?_)
        obtain ⟨B4, D4, hrB4⟩ := hs.rowAt 0 rfl hx6
        refine M.val hf hs (v := .slice B4 x6.length D4) (i := 3) rfl rfl rfl rfl (by kernel_rfl) (by kernel_rfl) (by kernel_rfl) (by kernel_rfl) (by kernel_rfl) rfl (V.loadRows (off := 0) 0 rfl hx6 hrB4 rfl rfl rfl Try.isAgg29 Try.sizeOf29 rfl rfl) (fun a hf => ?_)
        refine M.val hf hs (v := .int .i64 n6) (i := 4) rfl rfl rfl rfl (by kernel_rfl) (by kernel_rfl) (by kernel_rfl) (by kernel_rfl) (by kernel_rfl) rfl (V.pure rfl) (fun a hf => ?_)
        refine M.val hf hs (v := .slice l4A l4.length l4C) (i := 5) rfl rfl rfl rfl (by kernel_rfl) (by kernel_rfl) (by kernel_rfl) (by kernel_rfl) (by kernel_rfl) rfl (V.pure rfl) (fun a hf => ?_)
        refine M.val hf hs (v := .int .i64 n4) (i := 6) rfl rfl rfl rfl (by kernel_rfl) (by kernel_rfl) (by kernel_rfl) (by kernel_rfl) (by kernel_rfl) rfl (V.pure rfl) (fun a hf => ?_)
        refine M.val hf hs (v := elemPtr l4A (n4.toNat * 1)) (i := 7) rfl rfl rfl rfl (by kernel_rfl) (by kernel_rfl) (by kernel_rfl) (by kernel_rfl) (by kernel_rfl) rfl (V.index rfl rfl rfl Try.runUnderlying39 Try.sizeOf29 (hs.rowsSome 0 rfl hx6) h0x6 (lt_of_get hx6) rfl) (fun a hf => ?_)
        refine M.val hf hs (v := .slice B4 x6.length D4) (i := 8) rfl rfl rfl rfl (by kernel_rfl) (by kernel_rfl) (by kernel_rfl) (by kernel_rfl) (by kernel_rfl) rfl (V.loadRows (off := 0) 0 rfl hx6 hrB4 rfl rfl rfl Try.isAgg29 Try.sizeOf29 rfl rfl) (fun a hf => ?_)
        refine M.val hf hs (v := .int .i64 n6) (i := 9) rfl rfl rfl rfl (by kernel_rfl) (by kernel_rfl) (by kernel_rfl) (by kernel_rfl) (by kernel_rfl) rfl (V.pure rfl) (fun a hf => ?_)
        obtain ⟨h0x7, x7, hx7, h⟩ := h
        refine M.val hf hs (v := elemPtr B4 (n6.toNat * 1)) (i := 10) rfl rfl rfl rfl (by kernel_rfl) (by kernel_rfl) (by kernel_rfl) (by kernel_rfl) (by kernel_rfl) rfl (V.index rfl rfl rfl Try.runUnderlying29 Try.sizeOf4 ((hs.rowView 0 rfl hx6 hrB4).some_ (lt_of_get hx7)) h0x7 (lt_of_get hx7) rfl) (fun a hf => ?_)
        refine M.val hf hs (v := .bool x7) (i := 11) rfl rfl rfl rfl (by kernel_rfl) (by kernel_rfl) (by kernel_rfl) (by kernel_rfl) (by kernel_rfl) rfl (V.loadRowEl (off := 0) 0 rfl hx6 hrB4 hx7 rfl rfl rfl Try.isAgg4 Try.sizeOf4 rfl rfl) (fun a hf => ?_)
        refine M.split hf hs (b := x7) (i := 12) rfl rfl rfl rfl (by kernel_rfl) (by kernel_rfl) (by kernel_rfl) (by kernel_rfl) (by kernel_rfl) rfl (V.pure rfl) (fun hc a hf => ?_) (fun hc a hf => ?_)
        · replace h := h.1 hc
          refine M.skip hf hs (i := 13) rfl rfl rfl rfl (by kernel_rfl) (by kernel_rfl) (by kernel_rfl) (by kernel_rfl) (by kernel_rfl) rfl (fun a hf => ?_)
          refine M.skip hf hs (i := 14) rfl rfl rfl rfl (by kernel_rfl) (by kernel_rfl) (by kernel_rfl) (by kernel_rfl) (by kernel_rfl) rfl (fun a hf => ?_)
          refine M.skip hf hs (i := 15) rfl rfl rfl rfl (by kernel_rfl) (by kernel_rfl) (by kernel_rfl) (by kernel_rfl) (by kernel_rfl) rfl (fun a hf => ?_)
          refine M.skip hf hs (i := 16) rfl rfl rfl rfl (by kernel_rfl) (by kernel_rfl) (by kernel_rfl) (by kernel_rfl) (by kernel_rfl) rfl (fun a hf => ?_)
          refine M.skip hf hs (i := 17) rfl rfl rfl rfl (by kernel_rfl) (by kernel_rfl) (by kernel_rfl) (by kernel_rfl) (by kernel_rfl) rfl (fun a hf => ?_)
          refine M.skip hf hs (i := 18) rfl rfl rfl rfl (by kernel_rfl) (by kernel_rfl) (by kernel_rfl) (by kernel_rfl) (by kernel_rfl) rfl (fun a hf => ?_)
          refine M.skip hf hs (i := 19) rfl rfl rfl rfl (by kernel_rfl) (by kernel_rfl) (by kernel_rfl) (by kernel_rfl) (by kernel_rfl) rfl (fun a hf => ?_)
          refine M.skip hf hs (i := 20) rfl rfl rfl rfl (by kernel_rfl) (by kernel_rfl) (by kernel_rfl) (by kernel_rfl) (by kernel_rfl) rfl (fun a hf => ?_)
          refine M.skip hf hs (i := 21) rfl rfl rfl rfl (by kernel_rfl) (by kernel_rfl) (by kernel_rfl) (by kernel_rfl) (by kernel_rfl) rfl (fun a hf => ?_)
          refine M.skip hf hs (i := 22) rfl rfl rfl rfl (by kernel_rfl) (by kernel_rfl) (by kernel_rfl) (by kernel_rfl) (by kernel_rfl) rfl (fun a hf => ?_)
          refine M.skip hf hs (i := 23) rfl rfl rfl rfl (by kernel_rfl) (by kernel_rfl) (by kernel_rfl) (by kernel_rfl) (by kernel_rfl) rfl (fun a hf => ?_)
          refine M.skip hf hs (i := 24) rfl rfl rfl rfl (by kernel_rfl) (by kernel_rfl) (by kernel_rfl) (by kernel_rfl) (by kernel_rfl) rfl (fun a hf => ?_)
          refine M.skip hf hs (i := 25) rfl rfl rfl rfl (by kernel_rfl) (by kernel_rfl) (by kernel_rfl) (by kernel_rfl) (by kernel_rfl) rfl (fun a hf => ?_)
          refine M.val hf hs (v := .bool true) (i := 26) rfl rfl rfl rfl (by kernel_rfl) (by kernel_rfl) (by kernel_rfl) (by kernel_rfl) (by kernel_rfl) rfl (V.pure rfl) (fun a hf => ?_)
          refine M.val hf hs (v := elemPtr B4 (n6.toNat * 1)) (i := 27) rfl rfl rfl rfl (by kernel_rfl) (by kernel_rfl) (by kernel_rfl) (by kernel_rfl) (by kernel_rfl) rfl (V.index rfl rfl rfl Try.runUnderlying29 Try.sizeOf4 ((hs.rowView 0 rfl hx6 hrB4).some_ (lt_of_get hx7)) h0x7 (lt_of_get hx7) rfl) (fun a hf => ?_)
          refine M.last (i := 28) rfl (by kernel_rfl) (by kernel_rfl) ?_
          refine S.storeRowEl (off := 0) 0 hf hs rfl rfl (x6.set n6.toNat true) true [.bool true] rfl hx6 hrB4 hx7 rfl (row_same _ _ List.length_set _ _) rfl rfl rfl rfl rfl Try.sizeOf4 rfl (by decide) rfl rfl (fun a w hf hs => ?_)
          replace hf := hf.tell 6 (v := .slice l4A (l4.set n4.toNat (x6.set n6.toNat true)).length l4C) ((hf.get 6 (.slice l4A l4.length l4C) rfl).trans (congrArg (fun n => Value.slice l4A n l4C) List.length_set.symm))
          replace hf := hf.tell 61 (v := .slice l4A (l4.set n4.toNat (x6.set n6.toNat true)).length l4C) ((hf.get 61 (.slice l4A l4.length l4C) rfl).trans (congrArg (fun n => Value.slice l4A n l4C) List.length_set.symm))
          replace hf := hf.tell 66 (v := .slice l4A (l4.set n4.toNat (x6.set n6.toNat true)).length l4C) ((hf.get 66 (.slice l4A l4.length l4C) rfl).trans (congrArg (fun n => Value.slice l4A n l4C) List.length_set.symm))
          have hx4 : (l4.set n4.toNat (x6.set n6.toNat true))[n4.toNat]? = some (x6.set n6.toNat true) := List.getElem?_set_self (lt_of_get hx6)
          replace hf := hf.tell 64 (v := .slice B4 (x6.set n6.toNat true).length D4) ((hf.get 64 (.slice B4 x6.length D4) rfl).trans (congrArg (fun n => Value.slice B4 n D4) List.length_set.symm))
          replace hf := hf.tell 69 (v := .slice B4 (x6.set n6.toNat true).length D4) ((hf.get 69 (.slice B4 x6.length D4) rfl).trans (congrArg (fun n => Value.slice B4 n D4) List.length_set.symm))
          refine R.nil ?_
          refine X.then_ ?_
          refine M.done (by kernel_rfl) ?_
          refine X.blk ?_
          refine X.then_ ?_
          refine R.list ?_
          refine S.val hf hs (v := .int .i64 n6) rfl rfl rfl (V.pure rfl) (fun a hf => ?_)
          refine S.val hf hs (v := .int .i64 (w64 (n6 + 1))) rfl rfl rfl (V.pure rfl) (fun a hf => ?_)
          refine S.val hf hs (v := .int .i64 (w64 (n6 + 1))) rfl rfl rfl (V.pure rfl) (fun a hf => ?_)
          refine R.nil ?_
          refine X.then_ ?_
          exact ⟨(l4.set n4.toNat (x6.set n6.toNat true)), l4A, l4C, l4as, (w64 (n6 + 1)), (by rw [hagain3] at h; exact h), (((((hf.nil.cons (hf.get 8 _ rfl)).cons (hf.get 7 _ rfl)).cons (hf.get 6 _ rfl)).cons (hf.get 3 _ rfl)).cons (hf.get 0 _ rfl)), hs⟩
        · replace h := h.2 hc
          refine M.val hf hs (v := .slice l4A l4.length l4C) (i := 13) rfl rfl rfl rfl (by kernel_rfl) (by kernel_rfl) (by kernel_rfl) (by kernel_rfl) (by kernel_rfl) rfl (V.pure rfl) (fun a hf => ?_)
          refine M.val hf hs (v := .int .i64 n4) (i := 14) rfl rfl rfl rfl (by kernel_rfl) (by kernel_rfl) (by kernel_rfl) (by kernel_rfl) (by kernel_rfl) rfl (V.pure rfl) (fun a hf => ?_)
          refine M.val hf hs (v := .int .i64 (w64 (n4 + 1))) (i := 15) rfl rfl rfl rfl (by kernel_rfl) (by kernel_rfl) (by kernel_rfl) (by kernel_rfl) (by kernel_rfl) rfl (V.pure rfl) (fun a hf => ?_)
          obtain ⟨h0x8, x8, hx8, h⟩ := h
          refine M.val hf hs (v := elemPtr l4A ((w64 (n4 + 1)).toNat * 1)) (i := 16) rfl rfl rfl rfl (by kernel_rfl) (by kernel_rfl) (by kernel_rfl) (by kernel_rfl) (by kernel_rfl) rfl (V.index rfl rfl rfl Try.runUnderlying39 Try.sizeOf29 (hs.rowsSome 0 rfl hx8) h0x8 (lt_of_get hx8) rfl) (fun a hf => ?_)
          obtain ⟨B5, D5, hrB5⟩ := hs.rowAt 0 rfl hx8
          refine M.val hf hs (v := .slice B5 x8.length D5) (i := 17) rfl rfl rfl rfl (by kernel_rfl) (by kernel_rfl) (by kernel_rfl) (by kernel_rfl) (by kernel_rfl) rfl (V.loadRows (off := 0) 0 rfl hx8 hrB5 rfl rfl rfl Try.isAgg29 Try.sizeOf29 rfl rfl) (fun a hf => ?_)
          refine M.val hf hs (v := .int .i64 n6) (i := 18) rfl rfl rfl rfl (by kernel_rfl) (by kernel_rfl) (by kernel_rfl) (by kernel_rfl) (by kernel_rfl) rfl (V.pure rfl) (fun a hf => ?_)
          refine M.val hf hs (v := .slice lA l.length lC) (i := 19) rfl rfl rfl rfl (by kernel_rfl) (by kernel_rfl) (by kernel_rfl) (by kernel_rfl) (by kernel_rfl) rfl (V.pure rfl) (fun a hf => ?_)
          refine M.val hf hs (v := .int .i64 n4) (i := 20) rfl rfl rfl rfl (by kernel_rfl) (by kernel_rfl) (by kernel_rfl) (by kernel_rfl) (by kernel_rfl) rfl (V.pure rfl) (fun a hf => ?_)
          refine M.val hf hs (v := elemPtr lA (n4.toNat * 1)) (i := 21) rfl rfl rfl rfl (by kernel_rfl) (by kernel_rfl) (by kernel_rfl) (by kernel_rfl) (by kernel_rfl) rfl (V.index rfl rfl rfl Try.runUnderlying22 Try.sizeOf3 (hv_l.some_ (lt_of_get hx5)) h0x5 (lt_of_get hx5) rfl) (fun a hf => ?_)
          refine M.val hf hs (v := .int .i64 x5) (i := 22) rfl rfl rfl rfl (by kernel_rfl) (by kernel_rfl) (by kernel_rfl) (by kernel_rfl) (by kernel_rfl) rfl (V.loadEl (off := 0) (Ag.args _ _ _) (hv_l.flat hx5) rfl rfl rfl Try.isAgg3 Try.sizeOf3 rfl rfl) (fun a hf => ?_)
          refine M.val hf hs (v := .int .i64 (w64 (n6 - x5))) (i := 23) rfl rfl rfl rfl (by kernel_rfl) (by kernel_rfl) (by kernel_rfl) (by kernel_rfl) (by kernel_rfl) rfl (V.pure rfl) (fun a hf => ?_)
          obtain ⟨h0x9, x9, hx9, h⟩ := h
          refine M.val hf hs (v := elemPtr B5 ((w64 (n6 - x5)).toNat * 1)) (i := 24) rfl rfl rfl rfl (by kernel_rfl) (by kernel_rfl) (by kernel_rfl) (by kernel_rfl) (by kernel_rfl) rfl (V.index rfl rfl rfl Try.runUnderlying29 Try.sizeOf4 ((hs.rowView 0 rfl hx8 hrB5).some_ (lt_of_get hx9)) h0x9 (lt_of_get hx9) rfl) (fun a hf => ?_)
          refine M.val hf hs (v := .bool x9) (i := 25) rfl rfl rfl rfl (by kernel_rfl) (by kernel_rfl) (by kernel_rfl) (by kernel_rfl) (by kernel_rfl) rfl (V.loadRowEl (off := 0) 0 rfl hx8 hrB5 hx9 rfl rfl rfl Try.isAgg4 Try.sizeOf4 rfl rfl) (fun a hf => ?_)
          refine M.val hf hs (v := .bool x9) (i := 26) rfl rfl rfl rfl (by kernel_rfl) (by kernel_rfl) (by kernel_rfl) (by kernel_rfl) (by kernel_rfl) rfl (V.pure rfl) (fun a hf => ?_)
          refine M.val hf hs (v := elemPtr B4 (n6.toNat * 1)) (i := 27) rfl rfl rfl rfl (by kernel_rfl) (by kernel_rfl) (by kernel_rfl) (by kernel_rfl) (by kernel_rfl) rfl (V.index rfl rfl rfl Try.runUnderlying29 Try.sizeOf4 ((hs.rowView 0 rfl hx6 hrB4).some_ (lt_of_get hx7)) h0x7 (lt_of_get hx7) rfl) (fun a hf => ?_)
          refine M.last (i := 28) rfl (by kernel_rfl) (by kernel_rfl) ?_
          refine S.storeRowEl (off := 0) 0 hf hs rfl rfl (x6.set n6.toNat x9) x9 [.bool x9] rfl hx6 hrB4 hx7 rfl (row_same _ _ List.length_set _ _) rfl rfl rfl rfl rfl Try.sizeOf4 rfl (by decide) rfl rfl (fun a w hf hs => ?_)
          replace hf := hf.tell 6 (v := .slice l4A (l4.set n4.toNat (x6.set n6.toNat x9)).length l4C) ((hf.get 6 (.slice l4A l4.length l4C) rfl).trans (congrArg (fun n => Value.slice l4A n l4C) List.length_set.symm))
          replace hf := hf.tell 61 (v := .slice l4A (l4.set n4.toNat (x6.set n6.toNat x9)).length l4C) ((hf.get 61 (.slice l4A l4.length l4C) rfl).trans (congrArg (fun n => Value.slice l4A n l4C) List.length_set.symm))
          replace hf := hf.tell 66 (v := .slice l4A (l4.set n4.toNat (x6.set n6.toNat x9)).length l4C) ((hf.get 66 (.slice l4A l4.length l4C) rfl).trans (congrArg (fun n => Value.slice l4A n l4C) List.length_set.symm))
          replace hf := hf.tell 74 (v := .slice l4A (l4.set n4.toNat (x6.set n6.toNat x9)).length l4C) ((hf.get 74 (.slice l4A l4.length l4C) rfl).trans (congrArg (fun n => Value.slice l4A n l4C) List.length_set.symm))
          have hx5 : (l4.set n4.toNat (x6.set n6.toNat x9))[n4.toNat]? = some (x6.set n6.toNat x9) := List.getElem?_set_self (lt_of_get hx6)
          replace hf := hf.tell 64 (v := .slice B4 (x6.set n6.toNat x9).length D4) ((hf.get 64 (.slice B4 x6.length D4) rfl).trans (congrArg (fun n => Value.slice B4 n D4) List.length_set.symm))
          replace hf := hf.tell 69 (v := .slice B4 (x6.set n6.toNat x9).length D4) ((hf.get 69 (.slice B4 x6.length D4) rfl).trans (congrArg (fun n => Value.slice B4 n D4) List.length_set.symm))
          refine R.nil ?_
          refine X.then_ ?_
          refine M.done (by kernel_rfl) ?_
          refine X.blk ?_
          refine X.then_ ?_
          refine R.list ?_
          refine S.val hf hs (v := .int .i64 n6) rfl rfl rfl (V.pure rfl) (fun a hf => ?_)
          refine S.val hf hs (v := .int .i64 (w64 (n6 + 1))) rfl rfl rfl (V.pure rfl) (fun a hf => ?_)
          refine S.val hf hs (v := .int .i64 (w64 (n6 + 1))) rfl rfl rfl (V.pure rfl) (fun a hf => ?_)
          refine R.nil ?_
          refine X.then_ ?_
          exact ⟨(l4.set n4.toNat (x6.set n6.toNat x9)), l4A, l4C, l4as, (w64 (n6 + 1)), (by rw [hagain3] at h; exact h), (((((hf.nil.cons (hf.get 8 _ rfl)).cons (hf.get 7 _ rfl)).cons (hf.get 6 _ rfl)).cons (hf.get 3 _ rfl)).cons (hf.get 0 _ rfl)), hs⟩
      · replace h := h.2 hc
        refine wp_exit ?_
        refine X.then_exit ?_
        refine X.then_exit ?_
        refine X.blk_exit ?_
        refine X.blk ?_
        refine X.then_ ?_
        refine R.list ?_
        refine S.val hf hs (v := .int .i64 n4) rfl rfl rfl (V.pure rfl) (fun a hf => ?_)
        refine S.val hf hs (v := .int .i64 (w64 (n4 - 1))) rfl rfl rfl (V.pure rfl) (fun a hf => ?_)
        refine S.val hf hs (v := .int .i64 (w64 (n4 - 1))) rfl rfl rfl (V.pure rfl) (fun a hf => ?_)
        refine R.nil ?_
        refine X.then_ ?_
        exact ⟨l4, l4A, l4C, l4as, (w64 (n4 - 1)), (by rw [hagain2] at h; exact h), ((((hf.nil.cons (hf.get 7 _ rfl)).cons (hf.get 6 _ rfl)).cons (hf.get 3 _ rfl)).cons (hf.get 0 _ rfl)), hs⟩
    · replace h := h.2 hc
      refine wp_exit ?_
      refine X.then_exit ?_
      refine X.then_exit ?_
      refine X.blk_exit ?_
      refine X.then_ ?_
      refine wp_seq ?_
      refine R.list ?_
      refine S.val hf hs (v := .slice l2A l2.length l2C) rfl rfl rfl (V.pure rfl) (fun a hf => ?_)
      refine S.val hf hs (v := .slice l2A l2.length l2C) rfl rfl rfl (V.pure rfl) (fun a hf => ?_)
      refine R.nil ?_
      refine X.then_ ?_
      refine wp_ret ?_
      replace hs := hs.take 1
      exact L.ret hf (run_results1 Try.results21 (ResIs.tmp hf rfl)) ⟨l2, l2A, l2C, l2as, rfl, h, hs⟩
  | cons xk1 llk1 =>
    have hltk1 := range_lt hkk1; have hc := range_go hkk1; have hxk1 := range_get hlk1
    obtain ⟨next1, hnext1⟩ : ∃ X : Int → Prop, X = (fun n2 => forIn' (fun k x (s : Int) next => M_ref10_sums_L1 k x s (fun n2 => next n2)) (fun (s : Int) => (fun (n2 : Int) => must (0 ≤ w64 ((l.length : Int) + 1) ∧ w64 ((l.length : Int) + 1) * 24 ≤ 281474976710656) (must (0 ≤ w64 (n2 + 1) ∧ w64 (n2 + 1) * 1 ≤ 281474976710656) (idx (List.replicate ((w64 ((l.length : Int) + 1)).toNat) ([] : (List Bool))) (l.length : Int) fun x1 => idx (List.replicate ((w64 (n2 + 1)).toNat) false) 0 fun x2 => lp (fun again (s : List (List Bool) × Int) => M_ref10_sums_L2 l Q n2 (fun l2 n4 => again (l2, n4)) s.1 s.2) ((((List.replicate ((w64 ((l.length : Int) + 1)).toNat) ([] : (List Bool))).set l.length (List.replicate ((w64 (n2 + 1)).toNat) false)).set l.length ((List.replicate ((w64 (n2 + 1)).toNat) false).set 0 true)), w64 ((l.length : Int) - 1))))) s) llk1 (k1 + 1) n2) := ⟨_, rfl⟩
    replace h : M_ref10_sums_L1 k1 xk1 n2 next1 := by rw [hnext1]; exact h
    unfold M_ref10_sums_L1 at h
    refine wp_seq ?_
    refine R.list ?_
    refine S.val hf hs (v := .bool true) rfl rfl rfl (V.cmp true rfl rfl rfl rfl hc) (fun a hf => ?_)
    refine R.nil ?_
    refine X.then_ ?_
    refine wp_seq ?_
    refine C.yes hf rfl ?_
    refine wp_skip ?_
    refine X.then_ ?_
    refine wp_seq ?_
    refine wp_block ?_
    refine wp_seq ?_
    refine R.list ?_
    refine S.val hf hs (v := elemPtr lA (k1 * 1)) rfl rfl rfl (V.index rfl rfl rfl Try.runUnderlying22 Try.sizeOf3 (hv_l.some_ (lt_of_get hxk1)) (Int.natCast_nonneg _) (lt_of_get hxk1) rfl) (fun a hf => ?_)
    refine S.val hf hs (v := .int .i64 xk1) rfl rfl rfl (V.loadEl (off := 0) (Ag.args _ _ _) (hv_l.flat hxk1) rfl rfl rfl Try.isAgg3 Try.sizeOf3 rfl rfl) (fun a hf => ?_)
    refine S.val hf hs (v := .int .i64 xk1) rfl rfl rfl (V.pure rfl) (fun a hf => ?_)
    refine R.nil ?_
    refine X.then_ ?_
    refine R.list ?_
    refine S.val hf hs (v := .int .i64 n2) rfl rfl rfl (V.pure rfl) (fun a hf => ?_)
    refine S.val hf hs (v := .int .i64 xk1) rfl rfl rfl (V.pure rfl) (fun a hf => ?_)
    refine S.val hf hs (v := .int .i64 (w64 (n2 + xk1))) rfl rfl rfl (V.pure rfl) (fun a hf => ?_)
    refine S.val hf hs (v := .int .i64 (w64 (n2 + xk1))) rfl rfl rfl (V.pure rfl) (fun a hf => ?_)
    refine R.nil ?_
    refine X.blk ?_
    refine X.then_ ?_
    refine R.list ?_
    refine S.val hf hs (v := .int .i64 ((k1 + 1 : Nat) : Int)) rfl rfl rfl (V.incr rfl rfl rfl hltk1 hlenk1) (fun a hf => ?_)
    refine S.val hf hs (v := .int .i64 ((k1 + 1 : Nat) : Int)) rfl rfl rfl (V.pure rfl) (fun a hf => ?_)
    refine R.nil ?_
    refine X.then_ ?_
    exact ⟨xk1, llk1, rfl, k1 + 1, (w64 (n2 + xk1)), range_drop hlk1, range_len hkk1, (by rw [hnext1] at h; exact h), (((((hf.nil.cons (hf.get 10 _ rfl)).cons (hf.get 9 _ rfl)).cons (hf.get 3 _ rfl)).cons (hf.get 0 _ rfl)).cons (hf.get 11 _ rfl)), hs⟩

set_option linter.unusedVariables false
def M_ref10_ends_k2 (Q : Bool → Prop) (next1 : Prop) (c1 : Bool) : Prop :=
  cnd c1 (Q true) (next1)
def M_ref10_ends_L1 (sum : Int) (all : Int) (best : Int) (Q : Bool → Prop) (k1 : Nat) (xk1 : Bool)  (next1 : Prop) : Prop :=
  cnd xk1 (M_ref10_ends_k2 Q next1 ((max (w64 (sum + (k1 : Int))) (w64 ((w64 (all - sum)) - (k1 : Int)))) == best)) (M_ref10_ends_k2 Q next1 false)
def M_ref10_ends (can : (List Bool)) (sum : Int) (all : Int) (best : Int) (Q : Bool → Prop) : Prop :=
  forIn' (fun k x (s : Unit) next => M_ref10_ends_L1 sum all best Q k x (next ())) (fun (s : Unit) => Q false) can 0 ()
set_option maxHeartbeats 1000000 in
theorem R_ref10_ends (can : (List Bool)) (sum : Int) (all : Int) (best : Int) (w0 : World) (canA : Option Addr) (canC : Nat) (hv_can : View w0 (old w0 none_) canA canC can) (Q : Bool → Prop) (h : M_ref10_ends can sum all best Q) :
    Ret Try.prog 22 #[.slice canA can.length canC, .int .i64 sum, .int .i64 all, .int .i64 best] w0 fun v w' => ∃ (r0 : Bool), v = .bool r0 ∧ Q r0 ∧ Sat w0 none_ [] w' := by
  refine fn_enter Try.func22 rfl Try.ntmps22 rfl (fs := [(0, .slice canA can.length canC), (1, .int .i64 sum), (2, .int .i64 all), (3, .int .i64 best)]) rfl (fun a hf => ?_)
  have hs := Sat.start w0 none_
  unfold M_ref10_ends at h
  refine wp_seq ?_
  refine R.list ?_
  refine S.val hf hs (v := .bool false) rfl rfl rfl (V.pure rfl) (fun a hf => ?_)
  refine R.nil ?_
  refine X.then_ ?_
  refine wp_seq ?_
  refine wp_seq ?_
  refine R.list ?_
  refine S.val hf hs (v := .slice canA can.length canC) rfl rfl rfl (V.pure rfl) (fun a hf => ?_)
  refine S.val hf hs (v := .int .i64 (can.length : Int)) rfl rfl rfl (V.len rfl rfl Try.runUnderlying29) (fun a hf => ?_)
  refine S.val hf hs (v := .int .i64 0) rfl rfl rfl (V.pure rfl) (fun a hf => ?_)
  refine R.nil ?_
  refine X.then_ ?_
  refine wp_block ?_
  have hlenk1 := hv_can.len64
  refine C.range (fun (ll : List Bool) a w => ∃ (k1 : Nat) , can.drop k1 = ll ∧ k1 + ll.length = can.length ∧ forIn' (fun k x (s : Unit) next => M_ref10_ends_L1 sum all best Q k x (next ())) (fun (s : Unit) => Q false) ll k1 () ∧ FrOk 33 [(13, .int .i64 (k1 : Int)), (1, .int .i64 sum), (2, .int .i64 all), (3, .int .i64 best), (11, .slice canA can.length canC), (12, .int .i64 (can.length : Int))] a ∧ Sat w0 none_ [] w) can ⟨0, rfl, Nat.zero_add _, h, ((((((hf.nil.cons (hf.get 12 _ rfl)).cons (hf.get 11 _ rfl)).cons (hf.get 3 _ rfl)).cons (hf.get 2 _ rfl)).cons (hf.get 1 _ rfl)).cons (hf.get 13 _ rfl)), hs⟩ ?_
  clear h hf hs
  rintro llk1 a w ⟨k1, hlk1, hkk1, h, hf, hs⟩
  cases llk1 with
  | nil =>
    have hc := range_done hkk1
    replace h : Q false := h
    refine wp_seq ?_
    refine R.list ?_
    refine S.val hf hs (v := .bool false) rfl rfl rfl (V.cmp false rfl rfl rfl rfl hc) (fun a hf => ?_)
    refine R.nil ?_
    refine X.then_ ?_
    refine wp_seq ?_
    refine C.no hf rfl ?_
    refine wp_exit ?_
    refine X.then_exit ?_
    refine X.then_exit ?_
    refine X.blk_exit ?_
    refine X.then_ ?_
    refine wp_seq ?_
    refine R.list ?_
    refine S.val hf hs (v := .bool false) rfl rfl rfl (V.pure rfl) (fun a hf => ?_)
    refine R.nil ?_
    refine X.then_ ?_
    refine wp_ret ?_
    exact L.ret hf (run_results1 Try.results22 (ResIs.tmp hf rfl)) ⟨false, rfl, h, hs.nil⟩
  | cons xk1 llk1 =>
    have hltk1 := range_lt hkk1; have hc := range_go hkk1; have hxk1 := range_get hlk1
    obtain ⟨next1, hnext1⟩ : ∃ X : Prop, X = (forIn' (fun k x (s : Unit) next => M_ref10_ends_L1 sum all best Q k x (next ())) (fun (s : Unit) => Q false) llk1 (k1 + 1) ()) := ⟨_, rfl⟩
    replace h : M_ref10_ends_L1 sum all best Q k1 xk1  next1 := by rw [hnext1]; exact h
    unfold M_ref10_ends_L1 at h
    refine wp_seq ?_
    refine R.list ?_
    refine S.val hf hs (v := .bool true) rfl rfl rfl (V.cmp true rfl rfl rfl rfl hc) (fun a hf => ?_)
    refine R.nil ?_
    refine X.then_ ?_
    refine wp_seq ?_
    refine C.yes hf rfl ?_
    refine wp_skip ?_
    refine X.then_ ?_
    refine wp_seq ?_
    refine wp_block ?_
    refine wp_seq ?_
    refine R.list ?_
    refine S.val hf hs (v := .int .i64 (k1 : Int)) rfl rfl rfl (V.pure rfl) (fun a hf => ?_)
    refine S.val hf hs (v := elemPtr canA (k1 * 1)) rfl rfl rfl (V.index rfl rfl rfl Try.runUnderlying29 Try.sizeOf4 (hv_can.some_ (lt_of_get hxk1)) (Int.natCast_nonneg _) (lt_of_get hxk1) rfl) (fun a hf => ?_)
    refine S.val hf hs (v := .bool xk1) rfl rfl rfl (V.loadEl (off := 0) (Ag.args _ _ _) (hv_can.flat hxk1) rfl rfl rfl Try.isAgg4 Try.sizeOf4 rfl rfl) (fun a hf => ?_)
    refine S.val hf hs (v := .int .i64 (k1 : Int)) rfl rfl rfl (V.pure rfl) (fun a hf => ?_)
    refine S.val hf hs (v := .bool xk1) rfl rfl rfl (V.pure rfl) (fun a hf => ?_)
    refine R.nil ?_
    refine X.then_ ?_
    refine wp_seq ?_
    refine C.cut (J := fun a w => ∃ (c1 : Bool), M_ref10_ends_k2 Q next1 c1 ∧ FrOk 33 [(1, .int .i64 sum), (2, .int .i64 all), (3, .int .i64 best), (11, .slice canA can.length canC), (12, .int .i64 (can.length : Int)), (13, .int .i64 (k1 : Int)), (31, .bool c1)] a ∧ Sat w0 none_ [] w) ?_ ?_
    · rintro a w ⟨c1, h, hf, hs⟩
      unfold M_ref10_ends_k2 at h
      refine C.cond hf (b := c1) rfl (fun hc => ?_) (fun hc => ?_)
      · replace h := h.1 hc
        refine wp_seq ?_
        refine R.list ?_
        refine S.val hf hs (v := .bool true) rfl rfl rfl (V.pure rfl) (fun a hf => ?_)
        refine R.nil ?_
        refine X.then_ ?_
        refine wp_ret ?_
        refine X.blk_ret ?_
        refine X.then_ret ?_
        refine X.then_ret ?_
        refine X.blk_ret ?_
        refine X.then_ret ?_
        exact L.ret hf (run_results1 Try.results22 (ResIs.tmp hf rfl)) ⟨true, rfl, h, hs.nil⟩
      · replace h := h.2 hc
        refine wp_skip ?_
        refine X.blk ?_
        refine X.then_ ?_
        refine R.list ?_
        refine S.val hf hs (v := .int .i64 ((k1 + 1 : Nat) : Int)) rfl rfl rfl (V.incr rfl rfl rfl hltk1 hlenk1) (fun a hf => ?_)
        refine S.val hf hs (v := .int .i64 ((k1 + 1 : Nat) : Int)) rfl rfl rfl (V.pure rfl) (fun a hf => ?_)
        refine R.nil ?_
        refine X.then_ ?_
        exact ⟨xk1, llk1, rfl, k1 + 1, range_drop hlk1, range_len hkk1, (by rw [hnext1] at h; exact h), ((((((hf.nil.cons (hf.get 12 _ rfl)).cons (hf.get 11 _ rfl)).cons (hf.get 3 _ rfl)).cons (hf.get 2 _ rfl)).cons (hf.get 1 _ rfl)).cons (hf.get 13 _ rfl)), hs⟩
    · skip
      refine R.list ?_
      refine S.val hf hs (v := .bool xk1) rfl rfl rfl (V.pure rfl) (fun a hf => ?_)
      refine S.split hf hs (b := xk1) rfl rfl rfl (V.pure rfl) (fun hc a hf => ?_) (fun hc a hf => ?_)
      · replace h := h.1 hc
        refine S.val hf hs (v := .int .i64 sum) rfl rfl rfl (V.pure rfl) (fun a hf => ?_)
        refine S.val hf hs (v := .int .i64 (k1 : Int)) rfl rfl rfl (V.pure rfl) (fun a hf => ?_)
        refine S.val hf hs (v := .int .i64 (w64 (sum + (k1 : Int)))) rfl rfl rfl (V.pure rfl) (fun a hf => ?_)
        refine S.val hf hs (v := .int .i64 all) rfl rfl rfl (V.pure rfl) (fun a hf => ?_)
        refine S.val hf hs (v := .int .i64 sum) rfl rfl rfl (V.pure rfl) (fun a hf => ?_)
        refine S.val hf hs (v := .int .i64 (w64 (all - sum))) rfl rfl rfl (V.pure rfl) (fun a hf => ?_)
        refine S.val hf hs (v := .int .i64 (k1 : Int)) rfl rfl rfl (V.pure rfl) (fun a hf => ?_)
        refine S.val hf hs (v := .int .i64 (w64 ((w64 (all - sum)) - (k1 : Int)))) rfl rfl rfl (V.pure rfl) (fun a hf => ?_)
        refine S.val hf hs (v := .int .i64 (max (w64 (sum + (k1 : Int))) (w64 ((w64 (all - sum)) - (k1 : Int))))) rfl rfl rfl (V.max2 rfl rfl rfl) (fun a hf => ?_)
        refine S.val hf hs (v := .int .i64 best) rfl rfl rfl (V.pure rfl) (fun a hf => ?_)
        refine S.val hf hs (v := .bool ((max (w64 (sum + (k1 : Int))) (w64 ((w64 (all - sum)) - (k1 : Int)))) == best)) rfl rfl rfl (V.pure rfl) (fun a hf => ?_)
        refine S.val hf hs (v := .bool ((max (w64 (sum + (k1 : Int))) (w64 ((w64 (all - sum)) - (k1 : Int)))) == best)) rfl rfl rfl (V.pure rfl) (fun a hf => ?_)
        refine R.nil ?_
        refine X.then_ ?_
        exact ⟨((max (w64 (sum + (k1 : Int))) (w64 ((w64 (all - sum)) - (k1 : Int)))) == best), h, (((((((hf.nil.cons (hf.get 31 _ rfl)).cons (hf.get 13 _ rfl)).cons (hf.get 12 _ rfl)).cons (hf.get 11 _ rfl)).cons (hf.get 3 _ rfl)).cons (hf.get 2 _ rfl)).cons (hf.get 1 _ rfl)), hs⟩
      · replace h := h.2 hc
        refine S.skip hf rfl rfl rfl (fun a hf => ?_)
        refine S.skip hf rfl rfl rfl (fun a hf => ?_)
        refine S.skip hf rfl rfl rfl (fun a hf => ?_)
        refine S.skip hf rfl rfl rfl (fun a hf => ?_)
        refine S.skip hf rfl rfl rfl (fun a hf => ?_)
        refine S.skip hf rfl rfl rfl (fun a hf => ?_)
        refine S.skip hf rfl rfl rfl (fun a hf => ?_)
        refine S.skip hf rfl rfl rfl (fun a hf => ?_)
        refine S.skip hf rfl rfl rfl (fun a hf => ?_)
        refine S.skip hf rfl rfl rfl (fun a hf => ?_)
        refine S.skip hf rfl rfl rfl (fun a hf => ?_)
        refine S.val hf hs (v := .bool false) rfl rfl rfl (V.pure rfl) (fun a hf => ?_)
        refine R.nil ?_
        refine X.then_ ?_
        exact ⟨false, h, (((((((hf.nil.cons (hf.get 31 _ rfl)).cons (hf.get 13 _ rfl)).cons (hf.get 12 _ rfl)).cons (hf.get 11 _ rfl)).cons (hf.get 3 _ rfl)).cons (hf.get 2 _ rfl)).cons (hf.get 1 _ rfl)), hs⟩

set_option linter.unusedVariables false
def M_ref10_Balanced_L3 (loads : (List Int)) (Q : (List Int) → Int → Int → Prop) (n2 : Int) (y1 : (List (List Bool))) (n4 : Int) (again3 : List Int → Int → Int → Prop) (l2 : List Int) (n7 : Int) (n8 : Int) : Prop :=
  cnd ((max n7 (w64 (n2 - n7))) != n4) (idx y1 (w64 (n8 + 1)) fun x3 => idx loads n8 fun x4 => M_ref10_ends x3 (w64 (n7 + x4)) n2 n4 fun y2 => cnd y2 (must (room (l2 ++ [n8]).length 8) (again3 (l2 ++ [n8]) (w64 (n7 + x4)) (w64 (n8 + 1)))) (again3 l2 n7 (w64 (n8 + 1)))) (Q l2 n4 0)
def M_ref10_Balanced_k4 (loads : (List Int)) (n2 : Int) (k2 : Nat) (n4 : Int) (next2 : Int → Prop) (c1 : Bool) : Prop :=
  cnd c1 (idx loads 0 fun x5 => next2 (min n4 (max (w64 ((k2 : Int) + x5)) (w64 ((w64 (n2 - (k2 : Int))) - x5))))) (next2 n4)
def M_ref10_Balanced_L2 (loads : (List Int)) (n2 : Int) (k2 : Nat) (xk2 : Bool) (n4 : Int) (next2 : Int → Prop) : Prop :=
  cnd xk2 (idx loads 0 fun x6 => M_ref10_Balanced_k4 loads n2 k2 n4 next2 (decide (w64 ((k2 : Int) + x6) ≤ n2))) (M_ref10_Balanced_k4 loads n2 k2 n4 next2 false)
def M_ref10_Balanced_L1 (Q : (List Int) → Int → Int → Prop) (k1 : Nat) (xk1 : Int) (n2 : Int) (next1 : Int → Prop) : Prop :=
  cnd (!(within xk1 0 1000)) (Q ([] : List Int) 0 1) (next1 (w64 (n2 + xk1)))
def M_ref10_Balanced (loads : (List Int)) (Q : (List Int) → Int → Int → Prop) : Prop :=
  cnd (decide ((loads.length : Int) > 30)) (Q ([] : List Int) 0 2) (forIn' (fun k x (s : Int) next => M_ref10_Balanced_L1 Q k x s (fun n2 => next n2)) (fun (s : Int) => (fun (n2 : Int) => cnd ((loads.length : Int) == 0) (Q ([] : List Int) 0 0) (M_ref10_sums loads fun y1 => idx y1 1 fun x1 => forIn' (fun k x (s : Int) next => M_ref10_Balanced_L2 loads n2 k x s (fun n4 => next n4)) (fun (s : Int) => (fun (n4 : Int) => idx loads 0 fun x2 => lp (fun again (s : List Int × Int × Int) => M_ref10_Balanced_L3 loads Q n2 y1 n4 (fun l2 n7 n8 => again (l2, n7, n8)) s.1 s.2.1 s.2.2) ([0], x2, 1)) s) x1 0 n2)) s) loads 0 0)
set_option maxHeartbeats 1000000 in
theorem R_ref10_Balanced (loads : (List Int)) (w0 : World) (loadsA : Option Addr) (loadsC : Nat) (hv_loads : View w0 (old w0 none_) loadsA loadsC loads) (Q : (List Int) → Int → Int → Prop) (h : M_ref10_Balanced loads Q) :
    Ret Try.prog 8 #[.slice loadsA loads.length loadsC] w0 fun v w' => ∃ (r0 : (List Int)) (r0A : Option Addr) (r0C : Nat) (r1 : Int) (r2 : Int), v = .tuple #[.slice r0A r0.length r0C, .int .i64 r1, .int .i64 r2] ∧ Q r0 r1 r2 ∧ Sat w0 none_ [hown 3 r0A r0C r0] w' := by
  refine fn_enter Try.func8 rfl Try.ntmps8 rfl (fs := [(0, .slice loadsA loads.length loadsC)]) rfl (fun a hf => ?_)
  have hs := Sat.start w0 none_
  unfold M_ref10_Balanced at h
  refine wp_seq ?_
  refine R.list ?_
  refine S.val hf hs (v := .slice none 0 0) rfl rfl rfl (V.pure rfl) (fun a hf => ?_)
  refine S.val hf hs (v := .int .i64 0) rfl rfl rfl (V.pure rfl) (fun a hf => ?_)
  refine S.val hf hs (v := .int .i64 0) rfl rfl rfl (V.pure rfl) (fun a hf => ?_)
  refine R.nil ?_
  refine X.then_ ?_
  refine wp_seq ?_
  refine wp_seq ?_
  refine R.list ?_
  refine S.val hf hs (v := .slice loadsA loads.length loadsC) rfl rfl rfl (V.pure rfl) (fun a hf => ?_)
  refine S.val hf hs (v := .int .i64 (loads.length : Int)) rfl rfl rfl (V.len rfl rfl Try.runUnderlying22) (fun a hf => ?_)
  refine S.val hf hs (v := .bool (decide ((loads.length : Int) > 30))) rfl rfl rfl (V.pure rfl) (fun a hf => ?_)
  refine R.nil ?_
  refine X.then_ ?_
  refine C.cond hf (b := decide ((loads.length : Int) > 30)) rfl (fun hc => ?_) (fun hc => ?_)
  · replace h := h.1 hc
    refine wp_seq ?_
    refine R.list ?_
    refine S.val hf hs (v := .slice none 0 0) rfl rfl rfl (V.pure rfl) (fun a hf => ?_)
    refine S.val hf hs (v := .int .i64 0) rfl rfl rfl (V.pure rfl) (fun a hf => ?_)
    refine S.val hf hs (v := .int .i64 2) rfl rfl rfl (V.pure rfl) (fun a hf => ?_)
    refine R.nil ?_
    refine X.then_ ?_
    refine wp_ret ?_
    refine X.then_ret ?_
    replace hs := hs.nilOwn (α := Int) 3
    replace hs := hs.take 1
    exact L.ret hf (run_results3 Try.results8 (ResIs.tmp hf rfl) (ResIs.tmp hf rfl) (ResIs.tmp hf rfl)) ⟨([] : List Int), none, 0, 0, 2, rfl, h, hs⟩
  · replace h := h.2 hc
    refine wp_skip ?_
    refine X.then_ ?_
    refine wp_seq ?_
    refine R.list ?_
    refine S.val hf hs (v := .int .i64 0) rfl rfl rfl (V.pure rfl) (fun a hf => ?_)
    refine R.nil ?_
    refine X.then_ ?_
    refine wp_seq ?_
    refine wp_seq ?_
    refine R.list ?_
    refine S.val hf hs (v := .slice loadsA loads.length loadsC) rfl rfl rfl (V.pure rfl) (fun a hf => ?_)
    refine S.val hf hs (v := .int .i64 (loads.length : Int)) rfl rfl rfl (V.len rfl rfl Try.runUnderlying22) (fun a hf => ?_)
    refine S.val hf hs (v := .int .i64 0) rfl rfl rfl (V.pure rfl) (fun a hf => ?_)
    refine R.nil ?_
    refine X.then_ ?_
    refine wp_block ?_
    have hlenk1 := hv_loads.len64
    refine C.range (fun (ll : List Int) a w => ∃ (k1 : Nat) (n2 : Int), loads.drop k1 = ll ∧ k1 + ll.length = loads.length ∧ forIn' (fun k x (s : Int) next => M_ref10_Balanced_L1 Q k x s (fun n2 => next n2)) (fun (s : Int) => (fun (n2 : Int) => cnd ((loads.length : Int) == 0) (Q ([] : List Int) 0 0) (M_ref10_sums loads fun y1 => idx y1 1 fun x1 => forIn' (fun k x (s : Int) next => M_ref10_Balanced_L2 loads n2 k x s (fun n4 => next n4)) (fun (s : Int) => (fun (n4 : Int) => idx loads 0 fun x2 => lp (fun again (s : List Int × Int × Int) => M_ref10_Balanced_L3 loads Q n2 y1 n4 (fun l2 n7 n8 => again (l2, n7, n8)) s.1 s.2.1 s.2.2) ([0], x2, 1)) s) x1 0 n2)) s) ll k1 n2 ∧ FrOk 111 [(20, .int .i64 (k1 : Int)), (0, .slice loadsA loads.length loadsC), (5, .int .i64 n2), (18, .slice loadsA loads.length loadsC), (19, .int .i64 (loads.length : Int))] a ∧ Sat w0 none_ [] w) loads ⟨0, 0, rfl, Nat.zero_add _, h, (((((hf.nil.cons (hf.get 19 _ rfl)).cons (hf.get 18 _ rfl)).cons (hf.get 5 _ rfl)).cons (hf.get 0 _ rfl)).cons (hf.get 20 _ rfl)), hs⟩ ?_
    clear h hf hs
    rintro llk1 a w ⟨k1, n2, hlk1, hkk1, h, hf, hs⟩
    cases llk1 with
    | nil =>
      have hc := range_done hkk1
      replace h : (fun (n2 : Int) => cnd ((loads.length : Int) == 0) (Q ([] : List Int) 0 0) (M_ref10_sums loads fun y1 => idx y1 1 fun x1 => forIn' (fun k x (s : Int) next => M_ref10_Balanced_L2 loads n2 k x s (fun n4 => next n4)) (fun (s : Int) => (fun (n4 : Int) => idx loads 0 fun x2 => lp (fun again (s : List Int × Int × Int) => M_ref10_Balanced_L3 loads Q n2 y1 n4 (fun l2 n7 n8 => again (l2, n7, n8)) s.1 s.2.1 s.2.2) ([0], x2, 1)) s) x1 0 n2)) n2 := h
      refine wp_seq ?_
      refine R.list ?_
      refine S.val hf hs (v := .bool false) rfl rfl rfl (V.cmp false rfl rfl rfl rfl hc) (fun a hf => ?_)
      refine R.nil ?_
      refine X.then_ ?_
      refine wp_seq ?_
      refine C.no hf rfl ?_
      refine wp_exit ?_
      refine X.then_exit ?_
      refine X.then_exit ?_
      refine X.blk_exit ?_
      refine X.then_ ?_
      refine wp_seq ?_
      refine wp_seq ?_
      refine R.list ?_
      refine S.val hf hs (v := .slice loadsA loads.length loadsC) rfl rfl rfl (V.pure rfl) (fun a hf => ?_)
      refine S.val hf hs (v := .int .i64 (loads.length : Int)) rfl rfl rfl (V.len rfl rfl Try.runUnderlying22) (fun a hf => ?_)
      refine S.val hf hs (v := .bool ((loads.length : Int) == 0)) rfl rfl rfl (V.pure rfl) (fun a hf => ?_)
      refine R.nil ?_
      refine X.then_ ?_
      refine C.cond hf (b := (loads.length : Int) == 0) rfl (fun hc => ?_) (fun hc => ?_)
      · replace h := h.1 hc
        refine wp_seq ?_
        refine R.list ?_
        refine S.val hf hs (v := .slice none 0 0) rfl rfl rfl (V.pure rfl) (fun a hf => ?_)
        refine S.val hf hs (v := .int .i64 0) rfl rfl rfl (V.pure rfl) (fun a hf => ?_)
        refine S.val hf hs (v := .int .i64 0) rfl rfl rfl (V.pure rfl) (fun a hf => ?_)
        refine R.nil ?_
        refine X.then_ ?_
        refine wp_ret ?_
        refine X.then_ret ?_
        replace hs := hs.nilOwn (α := Int) 3
        replace hs := hs.take 1
        exact L.ret hf (run_results3 Try.results8 (ResIs.tmp hf rfl) (ResIs.tmp hf rfl) (ResIs.tmp hf rfl)) ⟨([] : List Int), none, 0, 0, 0, rfl, h, hs⟩
      · replace h := h.2 hc
        refine wp_skip ?_
        refine X.then_ ?_
        refine wp_seq ?_
        refine R.list ?_
        refine S.val hf hs (v := .slice loadsA loads.length loadsC) rfl rfl rfl (V.pure rfl) (fun a hf => ?_)
        refine S.call hf rfl rfl rfl (call_fn (vs := [.slice loadsA loads.length loadsC]) rfl rfl rfl Try.call21) (R_ref10_sums loads _ loadsA loadsC ((Ag.args _ _ _).view hv_loads hs) _ h) (fun v a w' hf hr => ?_)
        obtain ⟨y1, y1A, y1C, y1as, rfl, h2, hs2⟩ := hr
        replace h := h2; replace hs := hs.call hs2; clear h2 hs2
        refine S.val hf hs (v := .slice y1A y1.length y1C) rfl rfl rfl (V.pure rfl) (fun a hf => ?_)
        refine R.nil ?_
        refine X.then_ ?_
        refine wp_seq ?_
        refine R.list ?_
        refine S.val hf hs (v := .int .i64 n2) rfl rfl rfl (V.pure rfl) (fun a hf => ?_)
        refine S.val hf hs (v := .int .i64 n2) rfl rfl rfl (V.pure rfl) (fun a hf => ?_)
        refine R.nil ?_
        refine X.then_ ?_
        refine wp_seq ?_
        refine wp_seq ?_
        refine R.list ?_
        refine S.val hf hs (v := .slice y1A y1.length y1C) rfl rfl rfl (V.pure rfl) (fun a hf => ?_)
        obtain ⟨h0x1, x1, hx1, h⟩ := h
        refine S.val hf hs (v := elemPtr y1A (1 * 1)) rfl rfl rfl (V.index rfl rfl rfl Try.runUnderlying39 Try.sizeOf29 (hs.rowsSome 0 rfl hx1) h0x1 (lt_of_get hx1) rfl) (fun a hf => ?_)
        obtain ⟨B1, D1, hrB1⟩ := hs.rowAt 0 rfl hx1
        refine S.val hf hs (v := .slice B1 x1.length D1) rfl rfl rfl (V.loadRows (off := 0) 0 rfl hx1 hrB1 rfl rfl rfl Try.isAgg29 Try.sizeOf29 rfl rfl) (fun a hf => ?_)
        refine S.val hf hs (v := .int .i64 (x1.length : Int)) rfl rfl rfl (V.len rfl rfl Try.runUnderlying29) (fun a hf => ?_)
        refine S.val hf hs (v := .int .i64 0) rfl rfl rfl (V.pure rfl) (fun a hf => ?_)
        refine R.nil ?_
        refine X.then_ ?_
        refine wp_block ?_
        have hlenk2 := (hs.rowView 0 rfl hx1 hrB1).len64
        refine C.range (fun (ll : List Bool) a w => ∃ (k2 : Nat) (n4 : Int), x1.drop k2 = ll ∧ k2 + ll.length = x1.length ∧ forIn' (fun k x (s : Int) next => M_ref10_Balanced_L2 loads n2 k x s (fun n4 => next n4)) (fun (s : Int) => (fun (n4 : Int) => idx loads 0 fun x2 => lp (fun again (s : List Int × Int × Int) => M_ref10_Balanced_L3 loads Q n2 y1 n4 (fun l2 n7 n8 => again (l2, n7, n8)) s.1 s.2.1 s.2.2) ([0], x2, 1)) s) ll k2 n4 ∧ FrOk 111 [(41, .int .i64 (k2 : Int)), (0, .slice loadsA loads.length loadsC), (5, .int .i64 n2), (8, .slice y1A y1.length y1C), (9, .int .i64 n4), (39, .slice B1 x1.length D1), (40, .int .i64 (x1.length : Int))] a ∧ Sat w0 none_ [hrows 29 4 y1A y1C y1as y1] w) x1 ⟨0, n2, rfl, Nat.zero_add _, h, (((((((hf.nil.cons (hf.get 40 _ rfl)).cons (hf.get 39 _ rfl)).cons (hf.get 9 _ rfl)).cons (hf.get 8 _ rfl)).cons (hf.get 5 _ rfl)).cons (hf.get 0 _ rfl)).cons (hf.get 41 _ rfl)), hs⟩ ?_
        clear h hf hs
        rintro llk2 a w ⟨k2, n4, hlk2, hkk2, h, hf, hs⟩
        cases llk2 with
        | nil =>
          have hc := range_done hkk2
          replace h : (fun (n4 : Int) => idx loads 0 fun x2 => lp (fun again (s : List Int × Int × Int) => M_ref10_Balanced_L3 loads Q n2 y1 n4 (fun l2 n7 n8 => again (l2, n7, n8)) s.1 s.2.1 s.2.2) ([0], x2, 1)) n4 := h
          refine wp_seq ?_
          refine R.list ?_
          refine S.val hf hs (v := .bool false) rfl rfl rfl (V.cmp false rfl rfl rfl rfl hc) (fun a hf => ?_)
          refine R.nil ?_
          refine X.then_ ?_
          refine wp_seq ?_
          refine C.no hf rfl ?_
          refine wp_exit ?_
          refine X.then_exit ?_
          refine X.then_exit ?_
          refine X.blk_exit ?_
          refine X.then_ ?_
          refine wp_seq ?_
          refine H.start (S := Sat w0 none_ [hrows 29 4 y1A y1C y1as y1]) mo ?_
          replace hs := hs.drew
          refine H.val hf hs (v := .slice loadsA loads.length loadsC) (i := 1) rfl rfl rfl rfl (by kernel_rfl) (by kernel_rfl) (by kernel_rfl) (V.pure rfl) (fun a hf => ?_)
          obtain ⟨h0x2, x2, hx2, h⟩ := h
          refine H.val hf hs (v := elemPtr loadsA (0 * 1)) (i := 2) rfl rfl rfl rfl (by kernel_rfl) (by kernel_rfl) (by kernel_rfl) (V.index rfl rfl rfl Try.runUnderlying22 Try.sizeOf3 (hv_loads.some_ (lt_of_get hx2)) h0x2 (lt_of_get hx2) rfl) (fun a hf => ?_)
          refine H.val hf hs (v := .int .i64 x2) (i := 3) rfl rfl rfl rfl (by kernel_rfl) (by kernel_rfl) (by kernel_rfl) (V.loadEl (off := 0) (Ag.args _ _ _) (hv_loads.flat hx2) rfl rfl rfl Try.isAgg3 Try.sizeOf3 rfl rfl) (fun a hf => ?_)
          refine H.one (i := 0) rfl (by kernel_rfl) ?_
          refine S.build1 hf hs rfl rfl rfl (α := Int) 0 rfl rfl rfl Try.runUnderlying22 Try.sizeOf3 Try.zeroValue3 rfl (by decide) (fun A1 a w hf hs => ?_)
          refine R.nil ?_
          refine X.then_ ?_
          refine ⟨(hs.mask [false, true]), ?_⟩
          refine H.val hf (hs.mask [false, true]) (v := .slice A1 [0].length 1) (i := 4) rfl rfl rfl rfl (by kernel_rfl) (by kernel_rfl) (by kernel_rfl) (V.pure rfl) (fun a hf => ?_)
          refine H.val hf (hs.mask [false, true]) (v := .int .i64 x2) (i := 5) rfl rfl rfl rfl (by kernel_rfl) (by kernel_rfl) (by kernel_rfl) (V.pure rfl) (fun a hf => ?_)
          refine H.done (by kernel_rfl) ?_
          refine X.then_ ?_
          refine wp_seq ?_
          refine wp_seq ?_
          refine R.list ?_
          refine S.val hf hs (v := .int .i64 1) rfl rfl rfl (V.pure rfl) (fun a hf => ?_)
          refine R.nil ?_
          refine X.then_ ?_
          refine wp_block ?_
          obtain ⟨kk, h⟩ := h
          refine C.loop (fun kk a w => ∃ (l2 : List Int) (l2A : Option Addr) (l2C : Nat) (n7 : Int) (n8 : Int), iterF (fun again (s : List Int × Int × Int) => M_ref10_Balanced_L3 loads Q n2 y1 n4 (fun l2 n7 n8 => again (l2, n7, n8)) s.1 s.2.1 s.2.2) kk (l2, n7, n8) ∧ FrOk 111 [(0, .slice loadsA loads.length loadsC), (5, .int .i64 n2), (8, .slice y1A y1.length y1C), (9, .int .i64 n4), (12, .slice l2A l2.length l2C), (13, .int .i64 n7), (14, .int .i64 n8)] a ∧ Sat w0 none_ [hown 3 l2A l2C l2, hrows 29 4 y1A y1C y1as y1] w) kk ⟨[0], A1, 1, x2, 1, h, (((((((hf.nil.cons (hf.get 14 _ rfl)).cons (hf.get 13 _ rfl)).cons (hf.get 12 _ rfl)).cons (hf.get 9 _ rfl)).cons (hf.get 8 _ rfl)).cons (hf.get 5 _ rfl)).cons (hf.get 0 _ rfl)), hs⟩ (fun a w ⟨_, _, _, _, _, h, _, _⟩ => h) ?_
          clear h hf hs
          rintro kk a w ⟨l2, l2A, l2C, n7, n8, h, hf, hs⟩
          obtain ⟨again3, hagain3⟩ : ∃ X : List Int → Int → Int → Prop, X = (fun l2 n7 n8 => iterF (fun again (s : List Int × Int × Int) => M_ref10_Balanced_L3 loads Q n2 y1 n4 (fun l2 n7 n8 => again (l2, n7, n8)) s.1 s.2.1 s.2.2) kk (l2, n7, n8)) := ⟨_, rfl⟩
          replace h : M_ref10_Balanced_L3 loads Q n2 y1 n4 again3 l2 n7 n8 := by rw [hagain3]; exact h
          unfold M_ref10_Balanced_L3 at h
          refine wp_seq ?_
          refine wp_seq ?_
          refine R.list ?_
          refine S.val hf hs (v := .int .i64 n7) rfl rfl rfl (V.pure rfl) (fun a hf => ?_)
          refine S.val hf hs (v := .int .i64 n2) rfl rfl rfl (V.pure rfl) (fun a hf => ?_)
          refine S.val hf hs (v := .int .i64 n7) rfl rfl rfl (V.pure rfl) (fun a hf => ?_)
          refine S.val hf hs (v := .int .i64 (w64 (n2 - n7))) rfl rfl rfl (V.pure rfl) (fun a hf => ?_)
          refine S.val hf hs (v := .int .i64 (max n7 (w64 (n2 - n7)))) rfl rfl rfl (V.max2 rfl rfl rfl) (fun a hf => ?_)
          refine S.val hf hs (v := .int .i64 n4) rfl rfl rfl (V.pure rfl) (fun a hf => ?_)
          refine S.val hf hs (v := .bool ((max n7 (w64 (n2 - n7))) != n4)) rfl rfl rfl (V.pure rfl) (fun a hf => ?_)
          refine R.nil ?_
          refine X.then_ ?_
          refine C.cond hf (b := (max n7 (w64 (n2 - n7))) != n4) rfl (fun hc => ?_) (fun hc => ?_)
          · replace h := h.1 hc
            refine wp_skip ?_
            refine X.then_ ?_
            refine wp_seq ?_
            refine wp_block ?_
            refine wp_seq ?_
            refine H.start (S := Sat w0 none_ [hown 3 l2A l2C l2, hrows 29 4 y1A y1C y1as y1]) mo ?_
            replace hs := hs.drew
            refine H.val hf hs (v := .slice y1A y1.length y1C) (i := 0) rfl rfl rfl rfl (by kernel_rfl) (by kernel_rfl) (by kernel_rfl) (V.pure rfl) (fun a hf => ?_)
            refine H.val hf hs (v := .int .i64 n8) (i := 1) rfl rfl rfl rfl (by kernel_rfl) (by kernel_rfl) (by kernel_rfl) (V.pure rfl) (fun a hf => ?_)
            refine H.val hf hs (v := .int .i64 (w64 (n8 + 1))) (i := 2) rfl rfl rfl rfl (by kernel_rfl) (by kernel_rfl) (by kernel_rfl) (V.pure rfl) (fun a hf => ?_)
            obtain ⟨h0x3, x3, hx3, h⟩ := h
            refine H.val hf hs (v := elemPtr y1A ((w64 (n8 + 1)).toNat * 1)) (i := 3) rfl rfl rfl rfl (by kernel_rfl) (by kernel_rfl) (by kernel_rfl) (V.index rfl rfl rfl Try.runUnderlying39 Try.sizeOf29 (hs.rowsSome 1 rfl hx3) h0x3 (lt_of_get hx3) rfl) (fun a hf => ?_)
            obtain ⟨B2, D2, hrB2⟩ := hs.rowAt 1 rfl hx3
            refine H.val hf hs (v := .slice B2 x3.length D2) (i := 4) rfl rfl rfl rfl (by kernel_rfl) (by kernel_rfl) (by kernel_rfl) (V.loadRows (off := 0) 1 rfl hx3 hrB2 rfl rfl rfl Try.isAgg29 Try.sizeOf29 rfl rfl) (fun a hf => ?_)
            refine H.val hf hs (v := .int .i64 n7) (i := 5) rfl rfl rfl rfl (by kernel_rfl) (by kernel_rfl) (by kernel_rfl) (V.pure rfl) (fun a hf => ?_)
            refine H.val hf hs (v := .slice loadsA loads.length loadsC) (i := 6) rfl rfl rfl rfl (by kernel_rfl) (by kernel_rfl) (by kernel_rfl) (V.pure rfl) (fun a hf => ?_)
            refine H.val hf hs (v := .int .i64 n8) (i := 7) rfl rfl rfl rfl (by kernel_rfl) (by kernel_rfl) (by kernel_rfl) (V.pure rfl) (fun a hf => ?_)
            obtain ⟨h0x4, x4, hx4, h⟩ := h
            refine H.val hf hs (v := elemPtr loadsA (n8.toNat * 1)) (i := 8) rfl rfl rfl rfl (by kernel_rfl) (by kernel_rfl) (by kernel_rfl) (V.index rfl rfl rfl Try.runUnderlying22 Try.sizeOf3 (hv_loads.some_ (lt_of_get hx4)) h0x4 (lt_of_get hx4) rfl) (fun a hf => ?_)
            refine H.val hf hs (v := .int .i64 x4) (i := 9) rfl rfl rfl rfl (by kernel_rfl) (by kernel_rfl) (by kernel_rfl) (V.loadEl (off := 0) (Ag.args _ _ _) (hv_loads.flat hx4) rfl rfl rfl Try.isAgg3 Try.sizeOf3 rfl rfl) (fun a hf => ?_)
            refine H.val hf hs (v := .int .i64 (w64 (n7 + x4))) (i := 10) rfl rfl rfl rfl (by kernel_rfl) (by kernel_rfl) (by kernel_rfl) (V.pure rfl) (fun a hf => ?_)
            refine H.val hf hs (v := .int .i64 n2) (i := 11) rfl rfl rfl rfl (by kernel_rfl) (by kernel_rfl) (by kernel_rfl) (V.pure rfl) (fun a hf => ?_)
            refine H.val hf hs (v := .int .i64 n4) (i := 12) rfl rfl rfl rfl (by kernel_rfl) (by kernel_rfl) (by kernel_rfl) (V.pure rfl) (fun a hf => ?_)
            refine H.one (i := 13) rfl (by kernel_rfl) ?_
            refine S.call hf rfl rfl rfl (call_fn (vs := [.slice B2 x3.length D2, .int .i64 (w64 (n7 + x4)), .int .i64 n2, .int .i64 n4]) rfl rfl rfl Try.call22) (R_ref10_ends x3 (w64 (n7 + x4)) n2 n4 _ B2 D2 (hs.rowView 1 rfl hx3 hrB2) _ h) (fun v a w' hf hr => ?_)
            obtain ⟨y2, rfl, h2, hs2⟩ := hr
            replace h := h2; replace hs := hs.call hs2; clear h2 hs2
            refine R.nil ?_
            refine X.then_ ?_
            refine ⟨hs, ?_⟩
            refine H.done (by kernel_rfl) ?_
            refine X.then_ ?_
            refine C.cond hf (b := y2) rfl (fun hc => ?_) (fun hc => ?_)
            · replace h := h.1 hc
              refine H.start (S := Sat w0 none_ [hrows 29 4 y1A y1C y1as y1]) mo ?_
              replace hs := hs.drew
              refine H.val hf (hs.mask [false, true]) (v := .slice l2A l2.length l2C) (i := 0) rfl rfl rfl rfl (by kernel_rfl) (by kernel_rfl) (by kernel_rfl) (V.pure rfl) (fun a hf => ?_)
              refine H.val hf (hs.mask [false, true]) (v := .int .i64 n8) (i := 1) rfl rfl rfl rfl (by kernel_rfl) (by kernel_rfl) (by kernel_rfl) (V.pure rfl) (fun a hf => ?_)
              refine H.val hf (hs.mask [false, true]) (v := .int .i64 n7) (i := 4) rfl rfl rfl rfl (by kernel_rfl) (by kernel_rfl) (by kernel_rfl) (V.pure rfl) (fun a hf => ?_)
              refine H.val hf (hs.mask [false, true]) (v := .slice loadsA loads.length loadsC) (i := 5) rfl rfl rfl rfl (by kernel_rfl) (by kernel_rfl) (by kernel_rfl) (V.pure rfl) (fun a hf => ?_)
              refine H.val hf (hs.mask [false, true]) (v := .int .i64 n8) (i := 6) rfl rfl rfl rfl (by kernel_rfl) (by kernel_rfl) (by kernel_rfl) (V.pure rfl) (fun a hf => ?_)
              refine H.val hf (hs.mask [false, true]) (v := elemPtr loadsA (n8.toNat * 1)) (i := 7) rfl rfl rfl rfl (by kernel_rfl) (by kernel_rfl) (by kernel_rfl) (V.index rfl rfl rfl Try.runUnderlying22 Try.sizeOf3 (hv_loads.some_ (lt_of_get hx4)) h0x4 (lt_of_get hx4) rfl) (fun a hf => ?_)
              refine H.val hf (hs.mask [false, true]) (v := .int .i64 x4) (i := 8) rfl rfl rfl rfl (by kernel_rfl) (by kernel_rfl) (by kernel_rfl) (V.loadEl (off := 0) (Ag.args _ _ _) (hv_loads.flat hx4) rfl rfl rfl Try.isAgg3 Try.sizeOf3 rfl rfl) (fun a hf => ?_)
              refine H.val hf (hs.mask [false, true]) (v := .int .i64 (w64 (n7 + x4))) (i := 9) rfl rfl rfl rfl (by kernel_rfl) (by kernel_rfl) (by kernel_rfl) (V.pure rfl) (fun a hf => ?_)
              refine H.one (i := 2) rfl (by kernel_rfl) ?_
              refine S.build1 hf hs rfl rfl rfl (α := Int) n8 rfl rfl rfl Try.runUnderlying22 Try.sizeOf3 Try.zeroValue3 rfl (by decide) (fun A2 a w hf hs => ?_)
              refine R.nil ?_
              refine X.then_ ?_
              refine ⟨(hs.mask [false, false, true]), ?_⟩
              refine H.one (i := 3) rfl (by kernel_rfl) ?_
              obtain ⟨hroom, h⟩ := h
              refine S.appendCells 1 hf hs rfl rfl rfl rfl rfl rfl rfl Try.underlying22 info3 rfl hroom ((hs.ownView 0 rfl).some_ (i := 0) (by simp)) (hs.ownView 0 rfl) (fun A3 C1 a w hf hs => ?_)
              replace hs := hs.drop
              refine R.nil ?_
              refine X.then_ ?_
              refine ⟨(hs.mask [false, true]), ?_⟩
              refine H.val hf (hs.mask [false, true]) (v := .slice A3 (l2 ++ [n8]).length C1) (i := 10) rfl rfl rfl rfl (by kernel_rfl) (by kernel_rfl) (by kernel_rfl) (V.pure rfl) (fun a hf => ?_)
              refine H.val hf (hs.mask [false, true]) (v := .int .i64 (w64 (n7 + x4))) (i := 11) rfl rfl rfl rfl (by kernel_rfl) (by kernel_rfl) (by kernel_rfl) (V.pure rfl) (fun a hf => ?_)
              refine H.done (by kernel_rfl) ?_
              refine X.blk ?_
              refine X.then_ ?_
              refine R.list ?_
              refine S.val hf hs (v := .int .i64 n8) rfl rfl rfl (V.pure rfl) (fun a hf => ?_)
              refine S.val hf hs (v := .int .i64 (w64 (n8 + 1))) rfl rfl rfl (V.pure rfl) (fun a hf => ?_)
              refine S.val hf hs (v := .int .i64 (w64 (n8 + 1))) rfl rfl rfl (V.pure rfl) (fun a hf => ?_)
              refine R.nil ?_
              refine X.then_ ?_
              exact ⟨(l2 ++ [n8]), A3, C1, (w64 (n7 + x4)), (w64 (n8 + 1)), (by rw [hagain3] at h; exact h), (((((((hf.nil.cons (hf.get 14 _ rfl)).cons (hf.get 13 _ rfl)).cons (hf.get 12 _ rfl)).cons (hf.get 9 _ rfl)).cons (hf.get 8 _ rfl)).cons (hf.get 5 _ rfl)).cons (hf.get 0 _ rfl)), hs⟩
            · replace h := h.2 hc
              refine wp_skip ?_
              refine X.blk ?_
              refine X.then_ ?_
              refine R.list ?_
              refine S.val hf hs (v := .int .i64 n8) rfl rfl rfl (V.pure rfl) (fun a hf => ?_)
              refine S.val hf hs (v := .int .i64 (w64 (n8 + 1))) rfl rfl rfl (V.pure rfl) (fun a hf => ?_)
              refine S.val hf hs (v := .int .i64 (w64 (n8 + 1))) rfl rfl rfl (V.pure rfl) (fun a hf => ?_)
              refine R.nil ?_
              refine X.then_ ?_
              exact ⟨l2, l2A, l2C, n7, (w64 (n8 + 1)), (by rw [hagain3] at h; exact h), (((((((hf.nil.cons (hf.get 14 _ rfl)).cons (hf.get 13 _ rfl)).cons (hf.get 12 _ rfl)).cons (hf.get 9 _ rfl)).cons (hf.get 8 _ rfl)).cons (hf.get 5 _ rfl)).cons (hf.get 0 _ rfl)), hs⟩
          · replace h := h.2 hc
            refine wp_exit ?_
            refine X.then_exit ?_
            refine X.then_exit ?_
            refine X.blk_exit ?_
            refine X.then_ ?_
            refine wp_seq ?_
            refine R.list ?_
            refine S.val hf hs (v := .slice l2A l2.length l2C) rfl rfl rfl (V.pure rfl) (fun a hf => ?_)
            refine S.val hf hs (v := .int .i64 n4) rfl rfl rfl (V.pure rfl) (fun a hf => ?_)
            refine S.val hf hs (v := .slice l2A l2.length l2C) rfl rfl rfl (V.pure rfl) (fun a hf => ?_)
            refine S.val hf hs (v := .int .i64 n4) rfl rfl rfl (V.pure rfl) (fun a hf => ?_)
            refine S.val hf hs (v := .int .i64 0) rfl rfl rfl (V.pure rfl) (fun a hf => ?_)
            refine R.nil ?_
            refine X.then_ ?_
            refine wp_ret ?_
            replace hs := hs.take 1
            exact L.ret hf (run_results3 Try.results8 (ResIs.tmp hf rfl) (ResIs.tmp hf rfl) (ResIs.tmp hf rfl)) ⟨l2, l2A, l2C, n4, 0, rfl, h, hs⟩
        | cons xk2 llk2 =>
          have hltk2 := range_lt hkk2; have hc := range_go hkk2; have hxk2 := range_get hlk2
          obtain ⟨next2, hnext2⟩ : ∃ X : Int → Prop, X = (fun n4 => forIn' (fun k x (s : Int) next => M_ref10_Balanced_L2 loads n2 k x s (fun n4 => next n4)) (fun (s : Int) => (fun (n4 : Int) => idx loads 0 fun x2 => lp (fun again (s : List Int × Int × Int) => M_ref10_Balanced_L3 loads Q n2 y1 n4 (fun l2 n7 n8 => again (l2, n7, n8)) s.1 s.2.1 s.2.2) ([0], x2, 1)) s) llk2 (k2 + 1) n4) := ⟨_, rfl⟩
          replace h : M_ref10_Balanced_L2 loads n2 k2 xk2 n4 next2 := by rw [hnext2]; exact h
          unfold M_ref10_Balanced_L2 at h
          refine wp_seq ?_
          refine R.list ?_
          refine S.val hf hs (v := .bool true) rfl rfl rfl (V.cmp true rfl rfl rfl rfl hc) (fun a hf => ?_)
          refine R.nil ?_
          refine X.then_ ?_
          refine wp_seq ?_
          refine C.yes hf rfl ?_
          refine wp_skip ?_
          refine X.then_ ?_
          refine wp_seq ?_
          refine wp_block ?_
          refine wp_seq ?_
          refine R.list ?_
          refine S.val hf hs (v := .int .i64 (k2 : Int)) rfl rfl rfl (V.pure rfl) (fun a hf => ?_)
          refine S.val hf hs (v := elemPtr B1 (k2 * 1)) rfl rfl rfl (V.index rfl rfl rfl Try.runUnderlying29 Try.sizeOf4 ((hs.rowView 0 rfl hx1 hrB1).some_ (lt_of_get hxk2)) (Int.natCast_nonneg _) (lt_of_get hxk2) rfl) (fun a hf => ?_)
          refine S.val hf hs (v := .bool xk2) rfl rfl rfl (V.loadRowEl (off := 0) 0 rfl hx1 hrB1 hxk2 rfl rfl rfl Try.isAgg4 Try.sizeOf4 rfl rfl) (fun a hf => ?_)
          refine S.val hf hs (v := .int .i64 (k2 : Int)) rfl rfl rfl (V.pure rfl) (fun a hf => ?_)
          refine S.val hf hs (v := .bool xk2) rfl rfl rfl (V.pure rfl) (fun a hf => ?_)
          refine R.nil ?_
          refine X.then_ ?_
          refine wp_seq ?_
          refine C.cut (J := fun a w => ∃ (c1 : Bool), M_ref10_Balanced_k4 loads n2 k2 n4 next2 c1 ∧ FrOk 111 [(0, .slice loadsA loads.length loadsC), (5, .int .i64 n2), (8, .slice y1A y1.length y1C), (9, .int .i64 n4), (10, .int .i64 (k2 : Int)), (39, .slice B1 x1.length D1), (40, .int .i64 (x1.length : Int)), (41, .int .i64 (k2 : Int)), (55, .bool c1)] a ∧ Sat w0 none_ [hrows 29 4 y1A y1C y1as y1] w) ?_ ?_
          · rintro a w ⟨c1, h, hf, hs⟩
            unfold M_ref10_Balanced_k4 at h
            refine C.cond hf (b := c1) rfl (fun hc => ?_) (fun hc => ?_)
            · replace h := h.1 hc
              refine R.draw mo (by kernel_rfl) hs ?_
              refine D.val hf (v := .int .i64 n4) rfl rfl rfl (V.pure rfl) (fun a hf => ?_)
              refine D.val hf (v := .int .i64 (k2 : Int)) rfl rfl rfl (V.pure rfl) (fun a hf => ?_)
              refine D.val hf (v := .slice loadsA loads.length loadsC) rfl rfl rfl (V.pure rfl) (fun a hf => ?_)
              obtain ⟨h0x5, x5, hx5, h⟩ := h
              refine D.val hf (v := elemPtr loadsA (0 * 1)) rfl rfl rfl (V.index rfl rfl rfl Try.runUnderlying22 Try.sizeOf3 (hv_loads.some_ (lt_of_get hx5)) h0x5 (lt_of_get hx5) rfl) (fun a hf => ?_)
              refine D.val hf (v := .int .i64 x5) rfl rfl rfl (V.loadEl (off := 0) (Ag.args _ _ _) (hv_loads.flat hx5) rfl rfl rfl Try.isAgg3 Try.sizeOf3 rfl rfl) (fun a hf => ?_)
              refine D.val hf (v := .int .i64 (w64 ((k2 : Int) + x5))) rfl rfl rfl (V.pure rfl) (fun a hf => ?_)
              refine D.val hf (v := .int .i64 n2) rfl rfl rfl (V.pure rfl) (fun a hf => ?_)
              refine D.val hf (v := .int .i64 (k2 : Int)) rfl rfl rfl (V.pure rfl) (fun a hf => ?_)
              refine D.val hf (v := .int .i64 (w64 (n2 - (k2 : Int)))) rfl rfl rfl (V.pure rfl) (fun a hf => ?_)
              refine D.val hf (v := .slice loadsA loads.length loadsC) rfl rfl rfl (V.pure rfl) (fun a hf => ?_)
              refine D.val hf (v := elemPtr loadsA (0 * 1)) rfl rfl rfl (V.index rfl rfl rfl Try.runUnderlying22 Try.sizeOf3 (hv_loads.some_ (lt_of_get hx5)) h0x5 (lt_of_get hx5) rfl) (fun a hf => ?_)
              refine D.val hf (v := .int .i64 x5) rfl rfl rfl (V.loadEl (off := 0) (Ag.args _ _ _) (hv_loads.flat hx5) rfl rfl rfl Try.isAgg3 Try.sizeOf3 rfl rfl) (fun a hf => ?_)
              refine D.val hf (v := .int .i64 (w64 ((w64 (n2 - (k2 : Int))) - x5))) rfl rfl rfl (V.pure rfl) (fun a hf => ?_)
              refine D.val hf (v := .int .i64 (max (w64 ((k2 : Int) + x5)) (w64 ((w64 (n2 - (k2 : Int))) - x5)))) rfl rfl rfl (V.max2 rfl rfl rfl) (fun a hf => ?_)
              refine D.val hf (v := .int .i64 (min n4 (max (w64 ((k2 : Int) + x5)) (w64 ((w64 (n2 - (k2 : Int))) - x5))))) rfl rfl rfl (V.min2 rfl rfl rfl) (fun a hf => ?_)
              refine D.val hf (v := .int .i64 (min n4 (max (w64 ((k2 : Int) + x5)) (w64 ((w64 (n2 - (k2 : Int))) - x5))))) rfl rfl rfl (V.pure rfl) (fun a hf => ?_)
              refine D.done (fun w hs => ?_)
              refine X.blk ?_
              refine X.then_ ?_
              refine R.list ?_
              refine S.val hf hs (v := .int .i64 ((k2 + 1 : Nat) : Int)) rfl rfl rfl (V.incr rfl rfl rfl hltk2 hlenk2) (fun a hf => ?_)
              refine S.val hf hs (v := .int .i64 ((k2 + 1 : Nat) : Int)) rfl rfl rfl (V.pure rfl) (fun a hf => ?_)
              refine R.nil ?_
              refine X.then_ ?_
              exact ⟨xk2, llk2, rfl, k2 + 1, (min n4 (max (w64 ((k2 : Int) + x5)) (w64 ((w64 (n2 - (k2 : Int))) - x5)))), range_drop hlk2, range_len hkk2, (by rw [hnext2] at h; exact h), (((((((hf.nil.cons (hf.get 40 _ rfl)).cons (hf.get 39 _ rfl)).cons (hf.get 9 _ rfl)).cons (hf.get 8 _ rfl)).cons (hf.get 5 _ rfl)).cons (hf.get 0 _ rfl)).cons (hf.get 41 _ rfl)), hs⟩
            · replace h := h.2 hc
              refine wp_skip ?_
              refine X.blk ?_
              refine X.then_ ?_
              refine R.list ?_
              refine S.val hf hs (v := .int .i64 ((k2 + 1 : Nat) : Int)) rfl rfl rfl (V.incr rfl rfl rfl hltk2 hlenk2) (fun a hf => ?_)
              refine S.val hf hs (v := .int .i64 ((k2 + 1 : Nat) : Int)) rfl rfl rfl (V.pure rfl) (fun a hf => ?_)
              refine R.nil ?_
              refine X.then_ ?_
              exact ⟨xk2, llk2, rfl, k2 + 1, n4, range_drop hlk2, range_len hkk2, (by rw [hnext2] at h; exact h), (((((((hf.nil.cons (hf.get 40 _ rfl)).cons (hf.get 39 _ rfl)).cons (hf.get 9 _ rfl)).cons (hf.get 8 _ rfl)).cons (hf.get 5 _ rfl)).cons (hf.get 0 _ rfl)).cons (hf.get 41 _ rfl)), hs⟩
          · skip
            refine R.list ?_
            refine S.val hf hs (v := .bool xk2) rfl rfl rfl (V.pure rfl) (fun a hf => ?_)
            refine S.split hf hs (b := xk2) rfl rfl rfl (V.pure rfl) (fun hc a hf => ?_) (fun hc a hf => ?_)
            · replace h := h.1 hc
              refine S.val hf hs (v := .int .i64 (k2 : Int)) rfl rfl rfl (V.pure rfl) (fun a hf => ?_)
              refine S.val hf hs (v := .slice loadsA loads.length loadsC) rfl rfl rfl (V.pure rfl) (fun a hf => ?_)
              obtain ⟨h0x6, x6, hx6, h⟩ := h
              refine S.val hf hs (v := elemPtr loadsA (0 * 1)) rfl rfl rfl (V.index rfl rfl rfl Try.runUnderlying22 Try.sizeOf3 (hv_loads.some_ (lt_of_get hx6)) h0x6 (lt_of_get hx6) rfl) (fun a hf => ?_)
              refine S.val hf hs (v := .int .i64 x6) rfl rfl rfl (V.loadEl (off := 0) (Ag.args _ _ _) (hv_loads.flat hx6) rfl rfl rfl Try.isAgg3 Try.sizeOf3 rfl rfl) (fun a hf => ?_)
              refine S.val hf hs (v := .int .i64 (w64 ((k2 : Int) + x6))) rfl rfl rfl (V.pure rfl) (fun a hf => ?_)
              refine S.val hf hs (v := .int .i64 n2) rfl rfl rfl (V.pure rfl) (fun a hf => ?_)
              refine S.val hf hs (v := .bool (decide (w64 ((k2 : Int) + x6) ≤ n2))) rfl rfl rfl (V.pure rfl) (fun a hf => ?_)
              refine S.val hf hs (v := .bool (decide (w64 ((k2 : Int) + x6) ≤ n2))) rfl rfl rfl (V.pure rfl) (fun a hf => ?_)
              refine R.nil ?_
              refine X.then_ ?_
              exact ⟨(decide (w64 ((k2 : Int) + x6) ≤ n2)), h, (((((((((hf.nil.cons (hf.get 55 _ rfl)).cons (hf.get 41 _ rfl)).cons (hf.get 40 _ rfl)).cons (hf.get 39 _ rfl)).cons (hf.get 10 _ rfl)).cons (hf.get 9 _ rfl)).cons (hf.get 8 _ rfl)).cons (hf.get 5 _ rfl)).cons (hf.get 0 _ rfl)), hs⟩
            · replace h := h.2 hc
              refine S.skip hf rfl rfl rfl (fun a hf => ?_)
              refine S.skip hf rfl rfl rfl (fun a hf => ?_)
              refine S.skip hf rfl rfl rfl (fun a hf => ?_)
              refine S.skip hf rfl rfl rfl (fun a hf => ?_)
              refine S.skip hf rfl rfl rfl (fun a hf => ?_)
              refine S.skip hf rfl rfl rfl (fun a hf => ?_)
              refine S.skip hf rfl rfl rfl (fun a hf => ?_)
              refine S.val hf hs (v := .bool false) rfl rfl rfl (V.pure rfl) (fun a hf => ?_)
              refine R.nil ?_
              refine X.then_ ?_
              exact ⟨false, h, (((((((((hf.nil.cons (hf.get 55 _ rfl)).cons (hf.get 41 _ rfl)).cons (hf.get 40 _ rfl)).cons (hf.get 39 _ rfl)).cons (hf.get 10 _ rfl)).cons (hf.get 9 _ rfl)).cons (hf.get 8 _ rfl)).cons (hf.get 5 _ rfl)).cons (hf.get 0 _ rfl)), hs⟩
    | cons xk1 llk1 =>
      have hltk1 := range_lt hkk1; have hc := range_go hkk1; have hxk1 := range_get hlk1
      obtain ⟨next1, hnext1⟩ : ∃ X : Int → Prop, X = (fun n2 => forIn' (fun k x (s : Int) next => M_ref10_Balanced_L1 Q k x s (fun n2 => next n2)) (fun (s : Int) => (fun (n2 : Int) => cnd ((loads.length : Int) == 0) (Q ([] : List Int) 0 0) (M_ref10_sums loads fun y1 => idx y1 1 fun x1 => forIn' (fun k x (s : Int) next => M_ref10_Balanced_L2 loads n2 k x s (fun n4 => next n4)) (fun (s : Int) => (fun (n4 : Int) => idx loads 0 fun x2 => lp (fun again (s : List Int × Int × Int) => M_ref10_Balanced_L3 loads Q n2 y1 n4 (fun l2 n7 n8 => again (l2, n7, n8)) s.1 s.2.1 s.2.2) ([0], x2, 1)) s) x1 0 n2)) s) llk1 (k1 + 1) n2) := ⟨_, rfl⟩
      replace h : M_ref10_Balanced_L1 Q k1 xk1 n2 next1 := by rw [hnext1]; exact h
      unfold M_ref10_Balanced_L1 at h
      refine wp_seq ?_
      refine R.list ?_
      refine S.val hf hs (v := .bool true) rfl rfl rfl (V.cmp true rfl rfl rfl rfl hc) (fun a hf => ?_)
      refine R.nil ?_
      refine X.then_ ?_
      refine wp_seq ?_
      refine C.yes hf rfl ?_
      refine wp_skip ?_
      refine X.then_ ?_
      refine wp_seq ?_
      refine wp_block ?_
      refine wp_seq ?_
      refine R.list ?_
      refine S.val hf hs (v := elemPtr loadsA (k1 * 1)) rfl rfl rfl (V.index rfl rfl rfl Try.runUnderlying22 Try.sizeOf3 (hv_loads.some_ (lt_of_get hxk1)) (Int.natCast_nonneg _) (lt_of_get hxk1) rfl) (fun a hf => ?_)
      refine S.val hf hs (v := .int .i64 xk1) rfl rfl rfl (V.loadEl (off := 0) (Ag.args _ _ _) (hv_loads.flat hxk1) rfl rfl rfl Try.isAgg3 Try.sizeOf3 rfl rfl) (fun a hf => ?_)
      refine S.val hf hs (v := .int .i64 xk1) rfl rfl rfl (V.pure rfl) (fun a hf => ?_)
      refine R.nil ?_
      refine X.then_ ?_
      refine wp_seq ?_
      refine wp_seq ?_
      refine R.list ?_
      refine S.val hf hs (v := .int .i64 xk1) rfl rfl rfl (V.pure rfl) (fun a hf => ?_)
      refine S.callv hf rfl rfl rfl (call_fn (vs := [.int .i64 xk1, .int .i64 0, .int .i64 1000]) rfl rfl rfl Try.call20) (C_ref10_within xk1 0 1000 _ ) (fun a w hf hs' => ?_)
      replace hs := hs.call hs'; clear hs'
      refine S.val hf hs (v := .bool (!(within xk1 0 1000))) rfl rfl rfl (V.pure rfl) (fun a hf => ?_)
      refine R.nil ?_
      refine X.then_ ?_
      refine C.cond hf (b := !(within xk1 0 1000)) rfl (fun hc => ?_) (fun hc => ?_)
      · replace h := h.1 hc
        refine wp_seq ?_
        refine R.list ?_
        refine S.val hf hs (v := .slice none 0 0) rfl rfl rfl (V.pure rfl) (fun a hf => ?_)
        refine S.val hf hs (v := .int .i64 0) rfl rfl rfl (V.pure rfl) (fun a hf => ?_)
        refine S.val hf hs (v := .int .i64 1) rfl rfl rfl (V.pure rfl) (fun a hf => ?_)
        refine R.nil ?_
        refine X.then_ ?_
        refine wp_ret ?_
        refine X.then_ret ?_
        refine X.blk_ret ?_
        refine X.then_ret ?_
        refine X.then_ret ?_
        refine X.blk_ret ?_
        refine X.then_ret ?_
        replace hs := hs.nilOwn (α := Int) 3
        replace hs := hs.take 1
        exact L.ret hf (run_results3 Try.results8 (ResIs.tmp hf rfl) (ResIs.tmp hf rfl) (ResIs.tmp hf rfl)) ⟨([] : List Int), none, 0, 0, 1, rfl, h, hs⟩
      · replace h := h.2 hc
        refine wp_skip ?_
        refine X.then_ ?_
        refine R.list ?_
        refine S.val hf hs (v := .int .i64 n2) rfl rfl rfl (V.pure rfl) (fun a hf => ?_)
        refine S.val hf hs (v := .int .i64 xk1) rfl rfl rfl (V.pure rfl) (fun a hf => ?_)
        refine S.val hf hs (v := .int .i64 (w64 (n2 + xk1))) rfl rfl rfl (V.pure rfl) (fun a hf => ?_)
        refine S.val hf hs (v := .int .i64 (w64 (n2 + xk1))) rfl rfl rfl (V.pure rfl) (fun a hf => ?_)
        refine R.nil ?_
        refine X.blk ?_
        refine X.then_ ?_
        refine R.list ?_
        refine S.val hf hs (v := .int .i64 ((k1 + 1 : Nat) : Int)) rfl rfl rfl (V.incr rfl rfl rfl hltk1 hlenk1) (fun a hf => ?_)
        refine S.val hf hs (v := .int .i64 ((k1 + 1 : Nat) : Int)) rfl rfl rfl (V.pure rfl) (fun a hf => ?_)
        refine R.nil ?_
        refine X.then_ ?_
        exact ⟨xk1, llk1, rfl, k1 + 1, (w64 (n2 + xk1)), range_drop hlk1, range_len hkk1, (by rw [hnext1] at h; exact h), (((((hf.nil.cons (hf.get 19 _ rfl)).cons (hf.get 18 _ rfl)).cons (hf.get 5 _ rfl)).cons (hf.get 0 _ rfl)).cons (hf.get 20 _ rfl)), hs⟩

set_option linter.unusedVariables false
def M_equal_int_L1 (s2 : (List Int)) (Q : Bool → Prop) (k1 : Nat) (xk1 : Int)  (next1 : Prop) : Prop :=
  idx s2 (k1 : Int) fun x1 => cnd (xk1 != x1) (Q false) (next1)
def M_equal_int (s1 : (List Int)) (s2 : (List Int)) (Q : Bool → Prop) : Prop :=
  cnd ((s1.length : Int) != (s2.length : Int)) (Q false) (forIn' (fun k x (s : Unit) next => M_equal_int_L1 s2 Q k x (next ())) (fun (s : Unit) => Q true) s1 0 ())
set_option maxHeartbeats 1000000 in
theorem R_equal_int (s1 : (List Int)) (s2 : (List Int)) (w0 : World) (s1A : Option Addr) (s1C : Nat) (hv_s1 : View w0 (old w0 none_) s1A s1C s1) (s2A : Option Addr) (s2C : Nat) (hv_s2 : View w0 (old w0 none_) s2A s2C s2) (Q : Bool → Prop) (h : M_equal_int s1 s2 Q) :
    Ret Try.prog 9 #[.slice s1A s1.length s1C, .slice s2A s2.length s2C] w0 fun v w' => ∃ (r0 : Bool), v = .bool r0 ∧ Q r0 ∧ Sat w0 none_ [] w' := by
  refine fn_enter Try.func9 rfl Try.ntmps9 rfl (fs := [(0, .slice s1A s1.length s1C), (1, .slice s2A s2.length s2C)]) rfl (fun a hf => ?_)
  have hs := Sat.start w0 none_
  unfold M_equal_int at h
  refine wp_seq ?_
  refine R.list ?_
  refine S.val hf hs (v := .bool false) rfl rfl rfl (V.pure rfl) (fun a hf => ?_)
  refine R.nil ?_
  refine X.then_ ?_
  refine wp_seq ?_
  refine wp_seq ?_
  refine R.list ?_
  refine S.val hf hs (v := .slice s1A s1.length s1C) rfl rfl rfl (V.pure rfl) (fun a hf => ?_)
  refine S.val hf hs (v := .int .i64 (s1.length : Int)) rfl rfl rfl (V.len rfl rfl Try.runUnderlying22) (fun a hf => ?_)
  refine S.val hf hs (v := .slice s2A s2.length s2C) rfl rfl rfl (V.pure rfl) (fun a hf => ?_)
  refine S.val hf hs (v := .int .i64 (s2.length : Int)) rfl rfl rfl (V.len rfl rfl Try.runUnderlying22) (fun a hf => ?_)
  refine S.val hf hs (v := .bool ((s1.length : Int) != (s2.length : Int))) rfl rfl rfl (V.pure rfl) (fun a hf => ?_)
  refine R.nil ?_
  refine X.then_ ?_
  refine C.cond hf (b := (s1.length : Int) != (s2.length : Int)) rfl (fun hc => ?_) (fun hc => ?_)
  · replace h := h.1 hc
    refine wp_seq ?_
    refine R.list ?_
    refine S.val hf hs (v := .bool false) rfl rfl rfl (V.pure rfl) (fun a hf => ?_)
    refine R.nil ?_
    refine X.then_ ?_
    refine wp_ret ?_
    refine X.then_ret ?_
    exact L.ret hf (run_results1 Try.results9 (ResIs.tmp hf rfl)) ⟨false, rfl, h, hs.nil⟩
  · replace h := h.2 hc
    refine wp_skip ?_
    refine X.then_ ?_
    refine wp_seq ?_
    refine wp_seq ?_
    refine R.list ?_
    refine S.val hf hs (v := .slice s1A s1.length s1C) rfl rfl rfl (V.pure rfl) (fun a hf => ?_)
    refine S.val hf hs (v := .int .i64 (s1.length : Int)) rfl rfl rfl (V.len rfl rfl Try.runUnderlying22) (fun a hf => ?_)
    refine S.val hf hs (v := .int .i64 0) rfl rfl rfl (V.pure rfl) (fun a hf => ?_)
    refine R.nil ?_
    refine X.then_ ?_
    refine wp_block ?_
    have hlenk1 := hv_s1.len64
    refine C.range (fun (ll : List Int) a w => ∃ (k1 : Nat) , s1.drop k1 = ll ∧ k1 + ll.length = s1.length ∧ forIn' (fun k x (s : Unit) next => M_equal_int_L1 s2 Q k x (next ())) (fun (s : Unit) => Q true) ll k1 () ∧ FrOk 26 [(13, .int .i64 (k1 : Int)), (0, .slice s1A s1.length s1C), (1, .slice s2A s2.length s2C), (12, .int .i64 (s1.length : Int))] a ∧ Sat w0 none_ [] w) s1 ⟨0, rfl, Nat.zero_add _, h, ((((hf.nil.cons (hf.get 12 _ rfl)).cons (hf.get 1 _ rfl)).cons (hf.get 0 _ rfl)).cons (hf.get 13 _ rfl)), hs⟩ ?_
    clear h hf hs
    rintro llk1 a w ⟨k1, hlk1, hkk1, h, hf, hs⟩
    cases llk1 with
    | nil =>
      have hc := range_done hkk1
      replace h : Q true := h
      refine wp_seq ?_
      refine R.list ?_
      refine S.val hf hs (v := .bool false) rfl rfl rfl (V.cmp false rfl rfl rfl rfl hc) (fun a hf => ?_)
      refine R.nil ?_
      refine X.then_ ?_
      refine wp_seq ?_
      refine C.no hf rfl ?_
      refine wp_exit ?_
      refine X.then_exit ?_
      refine X.then_exit ?_
      refine X.blk_exit ?_
      refine X.then_ ?_
      refine wp_seq ?_
      refine R.list ?_
      refine S.val hf hs (v := .bool true) rfl rfl rfl (V.pure rfl) (fun a hf => ?_)
      refine R.nil ?_
      refine X.then_ ?_
      refine wp_ret ?_
      exact L.ret hf (run_results1 Try.results9 (ResIs.tmp hf rfl)) ⟨true, rfl, h, hs.nil⟩
    | cons xk1 llk1 =>
      have hltk1 := range_lt hkk1; have hc := range_go hkk1; have hxk1 := range_get hlk1
      obtain ⟨next1, hnext1⟩ : ∃ X : Prop, X = (forIn' (fun k x (s : Unit) next => M_equal_int_L1 s2 Q k x (next ())) (fun (s : Unit) => Q true) llk1 (k1 + 1) ()) := ⟨_, rfl⟩
      replace h : M_equal_int_L1 s2 Q k1 xk1  next1 := by rw [hnext1]; exact h
      unfold M_equal_int_L1 at h
      refine wp_seq ?_
      refine R.list ?_
      refine S.val hf hs (v := .bool true) rfl rfl rfl (V.cmp true rfl rfl rfl rfl hc) (fun a hf => ?_)
      refine R.nil ?_
      refine X.then_ ?_
      refine wp_seq ?_
      refine C.yes hf rfl ?_
      refine wp_skip ?_
      refine X.then_ ?_
      refine wp_seq ?_
      refine wp_block ?_
      refine wp_seq ?_
      refine R.list ?_
      refine S.val hf hs (v := .int .i64 (k1 : Int)) rfl rfl rfl (V.pure rfl) (fun a hf => ?_)
      refine S.val hf hs (v := .int .i64 (k1 : Int)) rfl rfl rfl (V.pure rfl) (fun a hf => ?_)
      refine R.nil ?_
      refine X.then_ ?_
      refine wp_seq ?_
      refine R.draw mo (by kernel_rfl) hs ?_
      refine D.val hf (v := .slice s1A s1.length s1C) rfl rfl rfl (V.pure rfl) (fun a hf => ?_)
      refine D.val hf (v := .int .i64 (k1 : Int)) rfl rfl rfl (V.pure rfl) (fun a hf => ?_)
      refine D.val hf (v := elemPtr s1A (k1 * 1)) rfl rfl rfl (V.index rfl rfl rfl Try.runUnderlying22 Try.sizeOf3 (hv_s1.some_ (lt_of_get hxk1)) (Int.natCast_nonneg _) (lt_of_get hxk1) rfl) (fun a hf => ?_)
      refine D.val hf (v := .int .i64 xk1) rfl rfl rfl (V.loadEl (off := 0) (Ag.args _ _ _) (hv_s1.flat hxk1) rfl rfl rfl Try.isAgg3 Try.sizeOf3 rfl rfl) (fun a hf => ?_)
      refine D.val hf (v := .slice s2A s2.length s2C) rfl rfl rfl (V.pure rfl) (fun a hf => ?_)
      refine D.val hf (v := .int .i64 (k1 : Int)) rfl rfl rfl (V.pure rfl) (fun a hf => ?_)
      obtain ⟨h0x1, x1, hx1, h⟩ := h
      refine D.val hf (v := elemPtr s2A (k1 * 1)) rfl rfl rfl (V.index rfl rfl rfl Try.runUnderlying22 Try.sizeOf3 (hv_s2.some_ (lt_of_get hx1)) (Int.natCast_nonneg _) (lt_of_get hx1) rfl) (fun a hf => ?_)
      refine D.val hf (v := .int .i64 x1) rfl rfl rfl (V.loadEl (off := 0) (Ag.args _ _ _) (hv_s2.flat hx1) rfl rfl rfl Try.isAgg3 Try.sizeOf3 rfl rfl) (fun a hf => ?_)
      refine D.val hf (v := .bool (xk1 != x1)) rfl rfl rfl (V.pure rfl) (fun a hf => ?_)
      refine D.done (fun w hs => ?_)
      refine X.then_ ?_
      refine C.cond hf (b := xk1 != x1) rfl (fun hc => ?_) (fun hc => ?_)
      · replace h := h.1 hc
        refine wp_seq ?_
        refine R.list ?_
        refine S.val hf hs (v := .bool false) rfl rfl rfl (V.pure rfl) (fun a hf => ?_)
        refine R.nil ?_
        refine X.then_ ?_
        refine wp_ret ?_
        refine X.blk_ret ?_
        refine X.then_ret ?_
        refine X.then_ret ?_
        refine X.blk_ret ?_
        refine X.then_ret ?_
        exact L.ret hf (run_results1 Try.results9 (ResIs.tmp hf rfl)) ⟨false, rfl, h, hs.nil⟩
      · replace h := h.2 hc
        refine wp_skip ?_
        refine X.blk ?_
        refine X.then_ ?_
        refine R.list ?_
        refine S.val hf hs (v := .int .i64 ((k1 + 1 : Nat) : Int)) rfl rfl rfl (V.incr rfl rfl rfl hltk1 hlenk1) (fun a hf => ?_)
        refine S.val hf hs (v := .int .i64 ((k1 + 1 : Nat) : Int)) rfl rfl rfl (V.pure rfl) (fun a hf => ?_)
        refine R.nil ?_
        refine X.then_ ?_
        exact ⟨xk1, llk1, rfl, k1 + 1, range_drop hlk1, range_len hkk1, (by rw [hnext1] at h; exact h), ((((hf.nil.cons (hf.get 12 _ rfl)).cons (hf.get 1 _ rfl)).cons (hf.get 0 _ rfl)).cons (hf.get 13 _ rfl)), hs⟩

set_option linter.unusedVariables false
def M_index_int_L1 (v_ : Int) (Q : Int → Prop) (k1 : Nat) (xk1 : Int)  (next1 : Prop) : Prop :=
  cnd (v_ == xk1) (Q (k1 : Int)) (next1)
def M_index_int (s_ : (List Int)) (v_ : Int) (Q : Int → Prop) : Prop :=
  forIn' (fun k x (s : Unit) next => M_index_int_L1 v_ Q k x (next ())) (fun (s : Unit) => Q (-1)) s_ 0 ()
set_option maxHeartbeats 1000000 in
theorem R_index_int (s_ : (List Int)) (v_ : Int) (w0 : World) (s_A : Option Addr) (s_C : Nat) (hv_s_ : View w0 (old w0 none_) s_A s_C s_) (Q : Int → Prop) (h : M_index_int s_ v_ Q) :
    Ret Try.prog 23 #[.slice s_A s_.length s_C, .int .i64 v_] w0 fun v w' => ∃ (r0 : Int), v = .int .i64 r0 ∧ Q r0 ∧ Sat w0 none_ [] w' := by
  refine fn_enter Try.func23 rfl Try.ntmps23 rfl (fs := [(0, .slice s_A s_.length s_C), (1, .int .i64 v_)]) rfl (fun a hf => ?_)
  have hs := Sat.start w0 none_
  unfold M_index_int at h
  refine wp_seq ?_
  refine R.list ?_
  refine S.val hf hs (v := .int .i64 0) rfl rfl rfl (V.pure rfl) (fun a hf => ?_)
  refine R.nil ?_
  refine X.then_ ?_
  refine wp_seq ?_
  refine wp_seq ?_
  refine R.list ?_
  refine S.val hf hs (v := .slice s_A s_.length s_C) rfl rfl rfl (V.pure rfl) (fun a hf => ?_)
  refine S.val hf hs (v := .int .i64 (s_.length : Int)) rfl rfl rfl (V.len rfl rfl Try.runUnderlying22) (fun a hf => ?_)
  refine S.val hf hs (v := .int .i64 0) rfl rfl rfl (V.pure rfl) (fun a hf => ?_)
  refine R.nil ?_
  refine X.then_ ?_
  refine wp_block ?_
  have hlenk1 := hv_s_.len64
  refine C.range (fun (ll : List Int) a w => ∃ (k1 : Nat) , s_.drop k1 = ll ∧ k1 + ll.length = s_.length ∧ forIn' (fun k x (s : Unit) next => M_index_int_L1 v_ Q k x (next ())) (fun (s : Unit) => Q (-1)) ll k1 () ∧ FrOk 19 [(8, .int .i64 (k1 : Int)), (0, .slice s_A s_.length s_C), (1, .int .i64 v_), (7, .int .i64 (s_.length : Int))] a ∧ Sat w0 none_ [] w) s_ ⟨0, rfl, Nat.zero_add _, h, ((((hf.nil.cons (hf.get 7 _ rfl)).cons (hf.get 1 _ rfl)).cons (hf.get 0 _ rfl)).cons (hf.get 8 _ rfl)), hs⟩ ?_
  clear h hf hs
  rintro llk1 a w ⟨k1, hlk1, hkk1, h, hf, hs⟩
  cases llk1 with
  | nil =>
    have hc := range_done hkk1
    replace h : Q (-1) := h
    refine wp_seq ?_
    refine R.list ?_
    refine S.val hf hs (v := .bool false) rfl rfl rfl (V.cmp false rfl rfl rfl rfl hc) (fun a hf => ?_)
    refine R.nil ?_
    refine X.then_ ?_
    refine wp_seq ?_
    refine C.no hf rfl ?_
    refine wp_exit ?_
    refine X.then_exit ?_
    refine X.then_exit ?_
    refine X.blk_exit ?_
    refine X.then_ ?_
    refine wp_seq ?_
    refine R.list ?_
    refine S.val hf hs (v := .int .i64 (-1)) rfl rfl rfl (V.pure rfl) (fun a hf => ?_)
    refine R.nil ?_
    refine X.then_ ?_
    refine wp_ret ?_
    exact L.ret hf (run_results1 Try.results23 (ResIs.tmp hf rfl)) ⟨(-1), rfl, h, hs.nil⟩
  | cons xk1 llk1 =>
    have hltk1 := range_lt hkk1; have hc := range_go hkk1; have hxk1 := range_get hlk1
    obtain ⟨next1, hnext1⟩ : ∃ X : Prop, X = (forIn' (fun k x (s : Unit) next => M_index_int_L1 v_ Q k x (next ())) (fun (s : Unit) => Q (-1)) llk1 (k1 + 1) ()) := ⟨_, rfl⟩
    replace h : M_index_int_L1 v_ Q k1 xk1  next1 := by rw [hnext1]; exact h
    unfold M_index_int_L1 at h
    refine wp_seq ?_
    refine R.list ?_
    refine S.val hf hs (v := .bool true) rfl rfl rfl (V.cmp true rfl rfl rfl rfl hc) (fun a hf => ?_)
    refine R.nil ?_
    refine X.then_ ?_
    refine wp_seq ?_
    refine C.yes hf rfl ?_
    refine wp_skip ?_
    refine X.then_ ?_
    refine wp_seq ?_
    refine wp_block ?_
    refine wp_seq ?_
    refine R.list ?_
    refine S.val hf hs (v := .int .i64 (k1 : Int)) rfl rfl rfl (V.pure rfl) (fun a hf => ?_)
    refine S.val hf hs (v := .int .i64 (k1 : Int)) rfl rfl rfl (V.pure rfl) (fun a hf => ?_)
    refine R.nil ?_
    refine X.then_ ?_
    refine wp_seq ?_
    refine R.list ?_
    refine S.val hf hs (v := .int .i64 v_) rfl rfl rfl (V.pure rfl) (fun a hf => ?_)
    refine S.val hf hs (v := .slice s_A s_.length s_C) rfl rfl rfl (V.pure rfl) (fun a hf => ?_)
    refine S.val hf hs (v := .int .i64 (k1 : Int)) rfl rfl rfl (V.pure rfl) (fun a hf => ?_)
    refine S.val hf hs (v := elemPtr s_A (k1 * 1)) rfl rfl rfl (V.index rfl rfl rfl Try.runUnderlying22 Try.sizeOf3 (hv_s_.some_ (lt_of_get hxk1)) (Int.natCast_nonneg _) (lt_of_get hxk1) rfl) (fun a hf => ?_)
    refine S.val hf hs (v := .int .i64 xk1) rfl rfl rfl (V.loadEl (off := 0) (Ag.args _ _ _) (hv_s_.flat hxk1) rfl rfl rfl Try.isAgg3 Try.sizeOf3 rfl rfl) (fun a hf => ?_)
    refine S.val hf hs (v := .bool (v_ == xk1)) rfl rfl rfl (V.pure rfl) (fun a hf => ?_)
    refine R.nil ?_
    refine X.then_ ?_
    refine C.cond hf (b := v_ == xk1) rfl (fun hc => ?_) (fun hc => ?_)
    · replace h := h.1 hc
      refine wp_seq ?_
      refine R.list ?_
      refine S.val hf hs (v := .int .i64 (k1 : Int)) rfl rfl rfl (V.pure rfl) (fun a hf => ?_)
      refine S.val hf hs (v := .int .i64 (k1 : Int)) rfl rfl rfl (V.pure rfl) (fun a hf => ?_)
      refine R.nil ?_
      refine X.then_ ?_
      refine wp_ret ?_
      refine X.blk_ret ?_
      refine X.then_ret ?_
      refine X.then_ret ?_
      refine X.blk_ret ?_
      refine X.then_ret ?_
      exact L.ret hf (run_results1 Try.results23 (ResIs.tmp hf rfl)) ⟨(k1 : Int), rfl, h, hs.nil⟩
    · replace h := h.2 hc
      refine wp_skip ?_
      refine X.blk ?_
      refine X.then_ ?_
      refine R.list ?_
      refine S.val hf hs (v := .int .i64 ((k1 + 1 : Nat) : Int)) rfl rfl rfl (V.incr rfl rfl rfl hltk1 hlenk1) (fun a hf => ?_)
      refine S.val hf hs (v := .int .i64 ((k1 + 1 : Nat) : Int)) rfl rfl rfl (V.pure rfl) (fun a hf => ?_)
      refine R.nil ?_
      refine X.then_ ?_
      exact ⟨xk1, llk1, rfl, k1 + 1, range_drop hlk1, range_len hkk1, (by rw [hnext1] at h; exact h), ((((hf.nil.cons (hf.get 7 _ rfl)).cons (hf.get 1 _ rfl)).cons (hf.get 0 _ rfl)).cons (hf.get 8 _ rfl)), hs⟩

set_option linter.unusedVariables false
def M_contains_int (s_ : (List Int)) (v_ : Int) (Q : Bool → Prop) : Prop :=
  M_index_int s_ v_ fun y1 => Q (decide (y1 ≥ 0))
set_option maxHeartbeats 1000000 in
theorem R_contains_int (s_ : (List Int)) (v_ : Int) (w0 : World) (s_A : Option Addr) (s_C : Nat) (hv_s_ : View w0 (old w0 none_) s_A s_C s_) (Q : Bool → Prop) (h : M_contains_int s_ v_ Q) :
    Ret Try.prog 11 #[.slice s_A s_.length s_C, .int .i64 v_] w0 fun v w' => ∃ (r0 : Bool), v = .bool r0 ∧ Q r0 ∧ Sat w0 none_ [] w' := by
  refine fn_enter Try.func11 rfl Try.ntmps11 rfl (fs := [(0, .slice s_A s_.length s_C), (1, .int .i64 v_)]) rfl (fun a hf => ?_)
  have hs := Sat.start w0 none_
  unfold M_contains_int at h
  refine wp_seq ?_
  refine R.list ?_
  refine S.val hf hs (v := .bool false) rfl rfl rfl (V.pure rfl) (fun a hf => ?_)
  refine R.nil ?_
  refine X.then_ ?_
  refine wp_seq ?_
  refine R.list ?_
  refine S.val hf hs (v := .slice s_A s_.length s_C) rfl rfl rfl (V.pure rfl) (fun a hf => ?_)
  refine S.val hf hs (v := .int .i64 v_) rfl rfl rfl (V.pure rfl) (fun a hf => ?_)
  refine S.call hf rfl rfl rfl (call_fn (vs := [.slice s_A s_.length s_C, .int .i64 v_]) rfl rfl rfl Try.call23) (R_index_int s_ v_ _ s_A s_C ((Ag.args _ _ _).view hv_s_ hs) _ h) (fun v a w' hf hr => ?_)
  obtain ⟨y1, rfl, h2, hs2⟩ := hr
  replace h := h2; replace hs := hs.call hs2; clear h2 hs2
  refine S.val hf hs (v := .bool (decide (y1 ≥ 0))) rfl rfl rfl (V.pure rfl) (fun a hf => ?_)
  refine S.val hf hs (v := .bool (decide (y1 ≥ 0))) rfl rfl rfl (V.pure rfl) (fun a hf => ?_)
  refine R.nil ?_
  refine X.then_ ?_
  refine wp_ret ?_
  exact L.ret hf (run_results1 Try.results11 (ResIs.tmp hf rfl)) ⟨(decide (y1 ≥ 0)), rfl, h, hs.nil⟩

set_option linter.unusedVariables false
def M_awake  (Q : Bool → Prop) : Prop :=
  M_mount_Balanced ([5, 4, 3, 2] : List Int) fun y1 y2 y3 => cnd (y3 == 0) (cnd (y2 == 7) (cnd ((y1.length : Int) == 2) (idx y1 1 fun x1 => Q (x1 == 3)) (Q false)) (Q false)) (Q false)
set_option maxHeartbeats 1000000 in
theorem R_awake  (w0 : World)  (Q : Bool → Prop) (h : M_awake  Q) :
    Ret Try.prog 10 #[] w0 fun v w' => ∃ (r0 : Bool), v = .bool r0 ∧ Q r0 ∧ Sat w0 none_ [] w' := by
  refine fn_enter Try.func10 rfl Try.ntmps10 rfl (fs := []) rfl (fun a hf => ?_)
  have hs := Sat.start w0 none_
  unfold M_awake at h
  refine wp_seq ?_
  refine R.list ?_
  refine S.val hf hs (v := .bool false) rfl rfl rfl (V.pure rfl) (fun a hf => ?_)
  refine R.nil ?_
  refine X.then_ ?_
  refine wp_seq ?_
  refine R.list ?_
  refine S.buildSlice hf hs rfl rfl rfl (α := Int) [5, 4, 3, 2] rfl rfl Try.runUnderlying22 Try.sizeOf3 Try.zeroValue3 (by kernel_rfl) rfl (by decide) (by decide) (fun A1 a w hf hs => ?_)
  refine S.call hf rfl rfl rfl (call_fn (vs := [.slice A1 ([5, 4, 3, 2] : List Int).length 4]) rfl rfl rfl Try.call7) (R_mount_Balanced ([5, 4, 3, 2] : List Int) _ A1 4 (hs.ownView 0 rfl) _ h) (fun v a w' hf hr => ?_)
  obtain ⟨y1, y1A, y1C, y2, y3, rfl, h2, hs2⟩ := hr
  replace h := h2; replace hs := hs.call hs2; clear h2 hs2
  refine S.val hf hs (v := .tuple #[.slice y1A y1.length y1C, .int .i64 y2, .int .i64 y3]) rfl rfl rfl (V.pure rfl) (fun a hf => ?_)
  refine S.val hf hs (v := .slice y1A y1.length y1C) rfl rfl rfl (V.pure rfl) (fun a hf => ?_)
  refine S.val hf hs (v := .int .i64 y2) rfl rfl rfl (V.pure rfl) (fun a hf => ?_)
  refine S.val hf hs (v := .int .i64 y3) rfl rfl rfl (V.pure rfl) (fun a hf => ?_)
  refine S.val hf hs (v := .slice y1A y1.length y1C) rfl rfl rfl (V.pure rfl) (fun a hf => ?_)
  refine S.val hf hs (v := .int .i64 y2) rfl rfl rfl (V.pure rfl) (fun a hf => ?_)
  refine S.val hf hs (v := .int .i64 y3) rfl rfl rfl (V.pure rfl) (fun a hf => ?_)
  refine R.nil ?_
  refine X.then_ ?_
  refine wp_seq ?_
  refine R.list ?_
  refine S.val hf hs (v := .int .i64 y3) rfl rfl rfl (V.pure rfl) (fun a hf => ?_)
  refine S.val hf hs (v := .bool (y3 == 0)) rfl rfl rfl (V.pure rfl) (fun a hf => ?_)
  refine S.split hf hs (b := y3 == 0) rfl rfl rfl (V.pure rfl) (fun hc a hf => ?_) (fun hc a hf => ?_)
  · replace h := h.1 hc
    refine S.val hf hs (v := .int .i64 y2) rfl rfl rfl (V.pure rfl) (fun a hf => ?_)
    refine S.val hf hs (v := .bool (y2 == 7)) rfl rfl rfl (V.pure rfl) (fun a hf => ?_)
    refine S.val hf hs (v := .bool (y2 == 7)) rfl rfl rfl (V.pure rfl) (fun a hf => ?_)
    refine S.split hf hs (b := y2 == 7) rfl rfl rfl (V.pure rfl) (fun hc a hf => ?_) (fun hc a hf => ?_)
    · replace h := h.1 hc
      refine S.val hf hs (v := .slice y1A y1.length y1C) rfl rfl rfl (V.pure rfl) (fun a hf => ?_)
      refine S.val hf hs (v := .int .i64 (y1.length : Int)) rfl rfl rfl (V.len rfl rfl Try.runUnderlying22) (fun a hf => ?_)
      refine S.val hf hs (v := .bool ((y1.length : Int) == 2)) rfl rfl rfl (V.pure rfl) (fun a hf => ?_)
      refine S.val hf hs (v := .bool ((y1.length : Int) == 2)) rfl rfl rfl (V.pure rfl) (fun a hf => ?_)
      refine S.split hf hs (b := (y1.length : Int) == 2) rfl rfl rfl (V.pure rfl) (fun hc a hf => ?_) (fun hc a hf => ?_)
      · replace h := h.1 hc
        refine S.val hf hs (v := .slice y1A y1.length y1C) rfl rfl rfl (V.pure rfl) (fun a hf => ?_)
        obtain ⟨h0x1, x1, hx1, h⟩ := h
        refine S.val hf hs (v := elemPtr y1A (1 * 1)) rfl rfl rfl (V.index rfl rfl rfl Try.runUnderlying22 Try.sizeOf3 (hs.ownSome 0 rfl (lt_of_get hx1)) h0x1 (lt_of_get hx1) rfl) (fun a hf => ?_)
        refine S.val hf hs (v := .int .i64 x1) rfl rfl rfl (V.loadOwn (off := 0) 0 rfl hx1 rfl rfl rfl Try.isAgg3 Try.sizeOf3 rfl rfl) (fun a hf => ?_)
        refine S.val hf hs (v := .bool (x1 == 3)) rfl rfl rfl (V.pure rfl) (fun a hf => ?_)
        refine S.val hf hs (v := .bool (x1 == 3)) rfl rfl rfl (V.pure rfl) (fun a hf => ?_)
        refine S.val hf hs (v := .bool (x1 == 3)) rfl rfl rfl (V.pure rfl) (fun a hf => ?_)
        refine R.nil ?_
        refine X.then_ ?_
        refine wp_ret ?_
        exact L.ret hf (run_results1 Try.results10 (ResIs.tmp hf rfl)) ⟨(x1 == 3), rfl, h, hs.nil⟩
      · replace h := h.2 hc
        refine S.skip hf rfl rfl rfl (fun a hf => ?_)
        refine S.skip hf rfl rfl rfl (fun a hf => ?_)
        refine S.skip hf rfl rfl rfl (fun a hf => ?_)
        refine S.skip hf rfl rfl rfl (fun a hf => ?_)
        refine S.val hf hs (v := .bool false) rfl rfl rfl (V.pure rfl) (fun a hf => ?_)
        refine S.val hf hs (v := .bool false) rfl rfl rfl (V.pure rfl) (fun a hf => ?_)
        refine R.nil ?_
        refine X.then_ ?_
        refine wp_ret ?_
        exact L.ret hf (run_results1 Try.results10 (ResIs.tmp hf rfl)) ⟨false, rfl, h, hs.nil⟩
    · replace h := h.2 hc
      refine S.skip hf rfl rfl rfl (fun a hf => ?_)
      refine S.skip hf rfl rfl rfl (fun a hf => ?_)
      refine S.skip hf rfl rfl rfl (fun a hf => ?_)
      refine S.val hf hs (v := .bool false) rfl rfl rfl (V.pure rfl) (fun a hf => ?_)
      refine S.val hf hs (v := .bool false) rfl rfl rfl (V.pure rfl) (fun a hf => ?_)
      refine S.skip hf rfl rfl rfl (fun a hf => ?_)
      refine S.skip hf rfl rfl rfl (fun a hf => ?_)
      refine S.skip hf rfl rfl rfl (fun a hf => ?_)
      refine S.skip hf rfl rfl rfl (fun a hf => ?_)
      refine S.val hf hs (v := .bool false) rfl rfl rfl (V.pure rfl) (fun a hf => ?_)
      refine S.val hf hs (v := .bool false) rfl rfl rfl (V.pure rfl) (fun a hf => ?_)
      refine R.nil ?_
      refine X.then_ ?_
      refine wp_ret ?_
      exact L.ret hf (run_results1 Try.results10 (ResIs.tmp hf rfl)) ⟨false, rfl, h, hs.nil⟩
  · replace h := h.2 hc
    refine S.skip hf rfl rfl rfl (fun a hf => ?_)
    refine S.skip hf rfl rfl rfl (fun a hf => ?_)
    refine S.val hf hs (v := .bool false) rfl rfl rfl (V.pure rfl) (fun a hf => ?_)
    refine S.val hf hs (v := .bool false) rfl rfl rfl (V.pure rfl) (fun a hf => ?_)
    refine S.skip hf rfl rfl rfl (fun a hf => ?_)
    refine S.skip hf rfl rfl rfl (fun a hf => ?_)
    refine S.skip hf rfl rfl rfl (fun a hf => ?_)
    refine S.val hf hs (v := .bool false) rfl rfl rfl (V.pure rfl) (fun a hf => ?_)
    refine S.val hf hs (v := .bool false) rfl rfl rfl (V.pure rfl) (fun a hf => ?_)
    refine S.skip hf rfl rfl rfl (fun a hf => ?_)
    refine S.skip hf rfl rfl rfl (fun a hf => ?_)
    refine S.skip hf rfl rfl rfl (fun a hf => ?_)
    refine S.skip hf rfl rfl rfl (fun a hf => ?_)
    refine S.val hf hs (v := .bool false) rfl rfl rfl (V.pure rfl) (fun a hf => ?_)
    refine S.val hf hs (v := .bool false) rfl rfl rfl (V.pure rfl) (fun a hf => ?_)
    refine R.nil ?_
    refine X.then_ ?_
    refine wp_ret ?_
    exact L.ret hf (run_results1 Try.results10 (ResIs.tmp hf rfl)) ⟨false, rfl, h, hs.nil⟩

set_option linter.unusedVariables false
def M_law_Balanced (loads : (List Int)) (Q : Bool → Prop) : Prop :=
  M_mount_Balanced loads fun y1 y2 y3 => M_ref10_Balanced loads fun y4 y5 y6 => cnd (y3 == y6) (cnd (y2 == y5) (M_equal_int y1 y4 fun y7 => cnd y7 (M_awake  fun y8 => Q y8) (Q false)) (Q false)) (Q false)
set_option maxHeartbeats 1000000 in
theorem R_law_Balanced (loads : (List Int)) (w0 : World) (loadsA : Option Addr) (loadsC : Nat) (hv_loads : View w0 (old w0 none_) loadsA loadsC loads) (Q : Bool → Prop) (h : M_law_Balanced loads Q) :
    Ret Try.prog 3 #[.slice loadsA loads.length loadsC] w0 fun v w' => ∃ (r0 : Bool), v = .bool r0 ∧ Q r0 ∧ Sat w0 none_ [] w' := by
  refine fn_enter Try.func3 rfl Try.ntmps3 rfl (fs := [(0, .slice loadsA loads.length loadsC)]) rfl (fun a hf => ?_)
  have hs := Sat.start w0 none_
  unfold M_law_Balanced at h
  refine wp_seq ?_
  refine R.list ?_
  refine S.val hf hs (v := .bool false) rfl rfl rfl (V.pure rfl) (fun a hf => ?_)
  refine R.nil ?_
  refine X.then_ ?_
  refine wp_seq ?_
  refine R.list ?_
  refine S.val hf hs (v := .slice loadsA loads.length loadsC) rfl rfl rfl (V.pure rfl) (fun a hf => ?_)
  refine S.call hf rfl rfl rfl (call_fn (vs := [.slice loadsA loads.length loadsC]) rfl rfl rfl Try.call7) (R_mount_Balanced loads _ loadsA loadsC ((Ag.args _ _ _).view hv_loads hs) _ h) (fun v a w' hf hr => ?_)
  obtain ⟨y1, y1A, y1C, y2, y3, rfl, h2, hs2⟩ := hr
  replace h := h2; replace hs := hs.call hs2; clear h2 hs2
  refine S.val hf hs (v := .tuple #[.slice y1A y1.length y1C, .int .i64 y2, .int .i64 y3]) rfl rfl rfl (V.pure rfl) (fun a hf => ?_)
  refine S.val hf hs (v := .slice y1A y1.length y1C) rfl rfl rfl (V.pure rfl) (fun a hf => ?_)
  refine S.val hf hs (v := .int .i64 y2) rfl rfl rfl (V.pure rfl) (fun a hf => ?_)
  refine S.val hf hs (v := .int .i64 y3) rfl rfl rfl (V.pure rfl) (fun a hf => ?_)
  refine S.val hf hs (v := .slice y1A y1.length y1C) rfl rfl rfl (V.pure rfl) (fun a hf => ?_)
  refine S.val hf hs (v := .int .i64 y2) rfl rfl rfl (V.pure rfl) (fun a hf => ?_)
  refine S.val hf hs (v := .int .i64 y3) rfl rfl rfl (V.pure rfl) (fun a hf => ?_)
  refine R.nil ?_
  refine X.then_ ?_
  refine wp_seq ?_
  refine R.list ?_
  refine S.val hf hs (v := .slice loadsA loads.length loadsC) rfl rfl rfl (V.pure rfl) (fun a hf => ?_)
  refine S.call hf rfl rfl rfl (call_fn (vs := [.slice loadsA loads.length loadsC]) rfl rfl rfl Try.call8) (R_ref10_Balanced loads _ loadsA loadsC ((Ag.args _ _ _).view hv_loads hs) _ h) (fun v a w' hf hr => ?_)
  obtain ⟨y4, y4A, y4C, y5, y6, rfl, h2, hs2⟩ := hr
  replace h := h2; replace hs := hs.call hs2; clear h2 hs2
  refine S.val hf hs (v := .tuple #[.slice y4A y4.length y4C, .int .i64 y5, .int .i64 y6]) rfl rfl rfl (V.pure rfl) (fun a hf => ?_)
  refine S.val hf hs (v := .slice y4A y4.length y4C) rfl rfl rfl (V.pure rfl) (fun a hf => ?_)
  refine S.val hf hs (v := .int .i64 y5) rfl rfl rfl (V.pure rfl) (fun a hf => ?_)
  refine S.val hf hs (v := .int .i64 y6) rfl rfl rfl (V.pure rfl) (fun a hf => ?_)
  refine S.val hf hs (v := .slice y4A y4.length y4C) rfl rfl rfl (V.pure rfl) (fun a hf => ?_)
  refine S.val hf hs (v := .int .i64 y5) rfl rfl rfl (V.pure rfl) (fun a hf => ?_)
  refine S.val hf hs (v := .int .i64 y6) rfl rfl rfl (V.pure rfl) (fun a hf => ?_)
  refine R.nil ?_
  refine X.then_ ?_
  refine wp_seq ?_
  refine R.list ?_
  refine S.val hf hs (v := .int .i64 y3) rfl rfl rfl (V.pure rfl) (fun a hf => ?_)
  refine S.val hf hs (v := .int .i64 y6) rfl rfl rfl (V.pure rfl) (fun a hf => ?_)
  refine S.val hf hs (v := .bool (y3 == y6)) rfl rfl rfl (V.pure rfl) (fun a hf => ?_)
  refine S.split hf hs (b := y3 == y6) rfl rfl rfl (V.pure rfl) (fun hc a hf => ?_) (fun hc a hf => ?_)
  · replace h := h.1 hc
    refine S.val hf hs (v := .int .i64 y2) rfl rfl rfl (V.pure rfl) (fun a hf => ?_)
    refine S.val hf hs (v := .int .i64 y5) rfl rfl rfl (V.pure rfl) (fun a hf => ?_)
    refine S.val hf hs (v := .bool (y2 == y5)) rfl rfl rfl (V.pure rfl) (fun a hf => ?_)
    refine S.val hf hs (v := .bool (y2 == y5)) rfl rfl rfl (V.pure rfl) (fun a hf => ?_)
    refine S.split hf hs (b := y2 == y5) rfl rfl rfl (V.pure rfl) (fun hc a hf => ?_) (fun hc a hf => ?_)
    · replace h := h.1 hc
      refine S.val hf hs (v := .slice y1A y1.length y1C) rfl rfl rfl (V.pure rfl) (fun a hf => ?_)
      refine S.val hf hs (v := .slice y4A y4.length y4C) rfl rfl rfl (V.pure rfl) (fun a hf => ?_)
      refine S.call hf rfl rfl rfl (call_fn (vs := [.slice y1A y1.length y1C, .slice y4A y4.length y4C]) rfl rfl rfl Try.call9) (R_equal_int y1 y4 _ y1A y1C (hs.ownView 1 rfl) y4A y4C (hs.ownView 0 rfl) _ h) (fun v a w' hf hr => ?_)
      obtain ⟨y7, rfl, h2, hs2⟩ := hr
      replace h := h2; replace hs := hs.call hs2; clear h2 hs2
      refine S.val hf hs (v := .bool y7) rfl rfl rfl (V.pure rfl) (fun a hf => ?_)
      refine S.split hf hs (b := y7) rfl rfl rfl (V.pure rfl) (fun hc a hf => ?_) (fun hc a hf => ?_)
      · replace h := h.1 hc
        refine S.call hf rfl rfl rfl (call_fn (vs := []) rfl rfl rfl Try.call10) (R_awake  _  _ h) (fun v a w' hf hr => ?_)
        obtain ⟨y8, rfl, h2, hs2⟩ := hr
        replace h := h2; replace hs := hs.call hs2; clear h2 hs2
        refine S.val hf hs (v := .bool y8) rfl rfl rfl (V.pure rfl) (fun a hf => ?_)
        refine S.val hf hs (v := .bool y8) rfl rfl rfl (V.pure rfl) (fun a hf => ?_)
        refine R.nil ?_
        refine X.then_ ?_
        refine wp_ret ?_
        exact L.ret hf (run_results1 Try.results3 (ResIs.tmp hf rfl)) ⟨y8, rfl, h, hs.nil⟩
      · replace h := h.2 hc
        refine S.skip hf rfl rfl rfl (fun a hf => ?_)
        refine S.val hf hs (v := .bool false) rfl rfl rfl (V.pure rfl) (fun a hf => ?_)
        refine S.val hf hs (v := .bool false) rfl rfl rfl (V.pure rfl) (fun a hf => ?_)
        refine R.nil ?_
        refine X.then_ ?_
        refine wp_ret ?_
        exact L.ret hf (run_results1 Try.results3 (ResIs.tmp hf rfl)) ⟨false, rfl, h, hs.nil⟩
    · replace h := h.2 hc
      refine S.skip hf rfl rfl rfl (fun a hf => ?_)
      refine S.skip hf rfl rfl rfl (fun a hf => ?_)
      refine S.skip hf rfl rfl rfl (fun a hf => ?_)
      refine S.val hf hs (v := .bool false) rfl rfl rfl (V.pure rfl) (fun a hf => ?_)
      refine S.val hf hs (v := .bool false) rfl rfl rfl (V.pure rfl) (fun a hf => ?_)
      refine S.skip hf rfl rfl rfl (fun a hf => ?_)
      refine S.val hf hs (v := .bool false) rfl rfl rfl (V.pure rfl) (fun a hf => ?_)
      refine S.val hf hs (v := .bool false) rfl rfl rfl (V.pure rfl) (fun a hf => ?_)
      refine R.nil ?_
      refine X.then_ ?_
      refine wp_ret ?_
      exact L.ret hf (run_results1 Try.results3 (ResIs.tmp hf rfl)) ⟨false, rfl, h, hs.nil⟩
  · replace h := h.2 hc
    refine S.skip hf rfl rfl rfl (fun a hf => ?_)
    refine S.skip hf rfl rfl rfl (fun a hf => ?_)
    refine S.skip hf rfl rfl rfl (fun a hf => ?_)
    refine S.val hf hs (v := .bool false) rfl rfl rfl (V.pure rfl) (fun a hf => ?_)
    refine S.val hf hs (v := .bool false) rfl rfl rfl (V.pure rfl) (fun a hf => ?_)
    refine S.skip hf rfl rfl rfl (fun a hf => ?_)
    refine S.skip hf rfl rfl rfl (fun a hf => ?_)
    refine S.skip hf rfl rfl rfl (fun a hf => ?_)
    refine S.val hf hs (v := .bool false) rfl rfl rfl (V.pure rfl) (fun a hf => ?_)
    refine S.val hf hs (v := .bool false) rfl rfl rfl (V.pure rfl) (fun a hf => ?_)
    refine S.skip hf rfl rfl rfl (fun a hf => ?_)
    refine S.val hf hs (v := .bool false) rfl rfl rfl (V.pure rfl) (fun a hf => ?_)
    refine S.val hf hs (v := .bool false) rfl rfl rfl (V.pure rfl) (fun a hf => ?_)
    refine R.nil ?_
    refine X.then_ ?_
    refine wp_ret ?_
    exact L.ret hf (run_results1 Try.results3 (ResIs.tmp hf rfl)) ⟨false, rfl, h, hs.nil⟩

set_option linter.unusedVariables false
def M_law_BalancedLeast_k3 (xk1 : Int) (n5 : Int) (n6 : Int) (next1 : Int → Int → Int → Prop) (n7 : Int) (c1 : Bool) : Prop :=
  cnd c1 (next1 n7 (w64 (n5 + xk1)) (w64 (n6 + xk1))) (next1 n7 (w64 (n5 + xk1)) n6)
def M_law_BalancedLeast_k2 (some : (List Bool)) (k1 : Nat) (xk1 : Int) (n5 : Int) (n6 : Int) (next1 : Int → Int → Int → Prop) (n7 : Int) : Prop :=
  cnd (decide ((k1 : Int) < (some.length : Int))) (idx some (k1 : Int) fun x1 => M_law_BalancedLeast_k3 xk1 n5 n6 next1 n7 x1) (M_law_BalancedLeast_k3 xk1 n5 n6 next1 n7 false)
def M_law_BalancedLeast_L1 (some : (List Bool)) (y1 : (List Int)) (k1 : Nat) (xk1 : Int) (n4 : Int) (n5 : Int) (n6 : Int) (next1 : Int → Int → Int → Prop) : Prop :=
  M_contains_int y1 (k1 : Int) fun y6 => cnd y6 (M_law_BalancedLeast_k2 some k1 xk1 n5 n6 next1 (w64 (n4 + xk1))) (M_law_BalancedLeast_k2 some k1 xk1 n5 n6 next1 n4)
def M_law_BalancedLeast (loads : (List Int)) (some : (List Bool)) (Q : Bool → Prop) : Prop :=
  M_mount_Balanced loads fun y1 y2 y3 => cnd (y3 != 0) (cnd ((y1.length : Int) == 0) (cnd (y2 == 0) (M_awake  fun y4 => Q y4) (Q false)) (Q false)) (forIn' (fun k x (s : Int × Int × Int) next => M_law_BalancedLeast_L1 some y1 k x s.1 s.2.1 s.2.2 (fun n4 n5 n6 => next (n4, n5, n6))) (fun (s : Int × Int × Int) => (fun (n4 : Int) (n5 : Int) (n6 : Int) => cnd ((max n4 (w64 (n5 - n4))) == y2) (cnd (decide (y2 ≤ max n6 (w64 (n5 - n6)))) (M_awake  fun y5 => Q y5) (Q false)) (Q false)) s.1 s.2.1 s.2.2) loads 0 (0, 0, 0))
set_option maxHeartbeats 1000000 in
theorem R_law_BalancedLeast (loads : (List Int)) (some : (List Bool)) (w0 : World) (loadsA : Option Addr) (loadsC : Nat) (hv_loads : View w0 (old w0 none_) loadsA loadsC loads) (someA : Option Addr) (someC : Nat) (hv_some : View w0 (old w0 none_) someA someC some) (Q : Bool → Prop) (h : M_law_BalancedLeast loads some Q) :
    Ret Try.prog 4 #[.slice loadsA loads.length loadsC, .slice someA some.length someC] w0 fun v w' => ∃ (r0 : Bool), v = .bool r0 ∧ Q r0 ∧ Sat w0 none_ [] w' := by
  refine fn_enter Try.func4 rfl Try.ntmps4 rfl (fs := [(0, .slice loadsA loads.length loadsC), (1, .slice someA some.length someC)]) rfl (fun a hf => ?_)
  have hs := Sat.start w0 none_
  unfold M_law_BalancedLeast at h
  refine wp_seq ?_
  refine R.list ?_
  refine S.val hf hs (v := .bool false) rfl rfl rfl (V.pure rfl) (fun a hf => ?_)
  refine R.nil ?_
  refine X.then_ ?_
  refine wp_seq ?_
  refine R.list ?_
  refine S.val hf hs (v := .slice loadsA loads.length loadsC) rfl rfl rfl (V.pure rfl) (fun a hf => ?_)
  refine S.call hf rfl rfl rfl (call_fn (vs := [.slice loadsA loads.length loadsC]) rfl rfl rfl Try.call7) (R_mount_Balanced loads _ loadsA loadsC ((Ag.args _ _ _).view hv_loads hs) _ h) (fun v a w' hf hr => ?_)
  obtain ⟨y1, y1A, y1C, y2, y3, rfl, h2, hs2⟩ := hr
  replace h := h2; replace hs := hs.call hs2; clear h2 hs2
  refine S.val hf hs (v := .tuple #[.slice y1A y1.length y1C, .int .i64 y2, .int .i64 y3]) rfl rfl rfl (V.pure rfl) (fun a hf => ?_)
  refine S.val hf hs (v := .slice y1A y1.length y1C) rfl rfl rfl (V.pure rfl) (fun a hf => ?_)
  refine S.val hf hs (v := .int .i64 y2) rfl rfl rfl (V.pure rfl) (fun a hf => ?_)
  refine S.val hf hs (v := .int .i64 y3) rfl rfl rfl (V.pure rfl) (fun a hf => ?_)
  refine S.val hf hs (v := .slice y1A y1.length y1C) rfl rfl rfl (V.pure rfl) (fun a hf => ?_)
  refine S.val hf hs (v := .int .i64 y2) rfl rfl rfl (V.pure rfl) (fun a hf => ?_)
  refine S.val hf hs (v := .int .i64 y3) rfl rfl rfl (V.pure rfl) (fun a hf => ?_)
  refine R.nil ?_
  refine X.then_ ?_
  refine wp_seq ?_
  refine wp_seq ?_
  refine R.list ?_
  refine S.val hf hs (v := .int .i64 y3) rfl rfl rfl (V.pure rfl) (fun a hf => ?_)
  refine S.val hf hs (v := .bool (y3 != 0)) rfl rfl rfl (V.pure rfl) (fun a hf => ?_)
  refine R.nil ?_
  refine X.then_ ?_
  refine C.cond hf (b := y3 != 0) rfl (fun hc => ?_) (fun hc => ?_)
  · replace h := h.1 hc
    refine wp_seq ?_
    refine R.list ?_
    refine S.val hf hs (v := .slice y1A y1.length y1C) rfl rfl rfl (V.pure rfl) (fun a hf => ?_)
    refine S.val hf hs (v := .int .i64 (y1.length : Int)) rfl rfl rfl (V.len rfl rfl Try.runUnderlying22) (fun a hf => ?_)
    refine S.val hf hs (v := .bool ((y1.length : Int) == 0)) rfl rfl rfl (V.pure rfl) (fun a hf => ?_)
    refine S.split hf hs (b := (y1.length : Int) == 0) rfl rfl rfl (V.pure rfl) (fun hc a hf => ?_) (fun hc a hf => ?_)
    · replace h := h.1 hc
      refine S.val hf hs (v := .int .i64 y2) rfl rfl rfl (V.pure rfl) (fun a hf => ?_)
      refine S.val hf hs (v := .bool (y2 == 0)) rfl rfl rfl (V.pure rfl) (fun a hf => ?_)
      refine S.val hf hs (v := .bool (y2 == 0)) rfl rfl rfl (V.pure rfl) (fun a hf => ?_)
      refine S.split hf hs (b := y2 == 0) rfl rfl rfl (V.pure rfl) (fun hc a hf => ?_) (fun hc a hf => ?_)
      · replace h := h.1 hc
        refine S.call hf rfl rfl rfl (call_fn (vs := []) rfl rfl rfl Try.call10) (R_awake  _  _ h) (fun v a w' hf hr => ?_)
        obtain ⟨y4, rfl, h2, hs2⟩ := hr
        replace h := h2; replace hs := hs.call hs2; clear h2 hs2
        refine S.val hf hs (v := .bool y4) rfl rfl rfl (V.pure rfl) (fun a hf => ?_)
        refine S.val hf hs (v := .bool y4) rfl rfl rfl (V.pure rfl) (fun a hf => ?_)
        refine R.nil ?_
        refine X.then_ ?_
        refine wp_ret ?_
        refine X.then_ret ?_
        exact L.ret hf (run_results1 Try.results4 (ResIs.tmp hf rfl)) ⟨y4, rfl, h, hs.nil⟩
      · replace h := h.2 hc
        refine S.skip hf rfl rfl rfl (fun a hf => ?_)
        refine S.val hf hs (v := .bool false) rfl rfl rfl (V.pure rfl) (fun a hf => ?_)
        refine S.val hf hs (v := .bool false) rfl rfl rfl (V.pure rfl) (fun a hf => ?_)
        refine R.nil ?_
        refine X.then_ ?_
        refine wp_ret ?_
        refine X.then_ret ?_
        exact L.ret hf (run_results1 Try.results4 (ResIs.tmp hf rfl)) ⟨false, rfl, h, hs.nil⟩
    · replace h := h.2 hc
      refine S.skip hf rfl rfl rfl (fun a hf => ?_)
      refine S.skip hf rfl rfl rfl (fun a hf => ?_)
      refine S.val hf hs (v := .bool false) rfl rfl rfl (V.pure rfl) (fun a hf => ?_)
      refine S.val hf hs (v := .bool false) rfl rfl rfl (V.pure rfl) (fun a hf => ?_)
      refine S.skip hf rfl rfl rfl (fun a hf => ?_)
      refine S.val hf hs (v := .bool false) rfl rfl rfl (V.pure rfl) (fun a hf => ?_)
      refine S.val hf hs (v := .bool false) rfl rfl rfl (V.pure rfl) (fun a hf => ?_)
      refine R.nil ?_
      refine X.then_ ?_
      refine wp_ret ?_
      refine X.then_ret ?_
      exact L.ret hf (run_results1 Try.results4 (ResIs.tmp hf rfl)) ⟨false, rfl, h, hs.nil⟩
  · replace h := h.2 hc
    refine wp_skip ?_
    refine X.then_ ?_
    refine wp_seq ?_
    refine R.list ?_
    refine S.val hf hs (v := .int .i64 0) rfl rfl rfl (V.pure rfl) (fun a hf => ?_)
    refine S.val hf hs (v := .int .i64 0) rfl rfl rfl (V.pure rfl) (fun a hf => ?_)
    refine S.val hf hs (v := .int .i64 0) rfl rfl rfl (V.pure rfl) (fun a hf => ?_)
    refine R.nil ?_
    refine X.then_ ?_
    refine wp_seq ?_
    refine wp_seq ?_
    refine R.list ?_
    refine S.val hf hs (v := .slice loadsA loads.length loadsC) rfl rfl rfl (V.pure rfl) (fun a hf => ?_)
    refine S.val hf hs (v := .int .i64 (loads.length : Int)) rfl rfl rfl (V.len rfl rfl Try.runUnderlying22) (fun a hf => ?_)
    refine S.val hf hs (v := .int .i64 0) rfl rfl rfl (V.pure rfl) (fun a hf => ?_)
    refine R.nil ?_
    refine X.then_ ?_
    refine wp_block ?_
    have hlenk1 := hv_loads.len64
    refine C.range (fun (ll : List Int) a w => ∃ (k1 : Nat) (n4 : Int) (n5 : Int) (n6 : Int), loads.drop k1 = ll ∧ k1 + ll.length = loads.length ∧ forIn' (fun k x (s : Int × Int × Int) next => M_law_BalancedLeast_L1 some y1 k x s.1 s.2.1 s.2.2 (fun n4 n5 n6 => next (n4, n5, n6))) (fun (s : Int × Int × Int) => (fun (n4 : Int) (n5 : Int) (n6 : Int) => cnd ((max n4 (w64 (n5 - n4))) == y2) (cnd (decide (y2 ≤ max n6 (w64 (n5 - n6)))) (M_awake  fun y5 => Q y5) (Q false)) (Q false)) s.1 s.2.1 s.2.2) ll k1 (n4, n5, n6) ∧ FrOk 80 [(33, .int .i64 (k1 : Int)), (1, .slice someA some.length someC), (5, .slice y1A y1.length y1C), (6, .int .i64 y2), (8, .int .i64 n4), (9, .int .i64 n5), (10, .int .i64 n6), (31, .slice loadsA loads.length loadsC), (32, .int .i64 (loads.length : Int))] a ∧ Sat w0 none_ [hown 3 y1A y1C y1] w) loads ⟨0, 0, 0, 0, rfl, Nat.zero_add _, h, (((((((((hf.nil.cons (hf.get 32 _ rfl)).cons (hf.get 31 _ rfl)).cons (hf.get 10 _ rfl)).cons (hf.get 9 _ rfl)).cons (hf.get 8 _ rfl)).cons (hf.get 6 _ rfl)).cons (hf.get 5 _ rfl)).cons (hf.get 1 _ rfl)).cons (hf.get 33 _ rfl)), hs⟩ ?_
    clear h hf hs
    rintro llk1 a w ⟨k1, n4, n5, n6, hlk1, hkk1, h, hf, hs⟩
    cases llk1 with
    | nil =>
      have hc := range_done hkk1
      replace h : (fun (n4 : Int) (n5 : Int) (n6 : Int) => cnd ((max n4 (w64 (n5 - n4))) == y2) (cnd (decide (y2 ≤ max n6 (w64 (n5 - n6)))) (M_awake  fun y5 => Q y5) (Q false)) (Q false)) n4 n5 n6 := h
      refine wp_seq ?_
      refine R.list ?_
      refine S.val hf hs (v := .bool false) rfl rfl rfl (V.cmp false rfl rfl rfl rfl hc) (fun a hf => ?_)
      refine R.nil ?_
      refine X.then_ ?_
      refine wp_seq ?_
      refine C.no hf rfl ?_
      refine wp_exit ?_
      refine X.then_exit ?_
      refine X.then_exit ?_
      refine X.blk_exit ?_
      refine X.then_ ?_
      refine wp_seq ?_
      refine R.list ?_
      refine S.val hf hs (v := .int .i64 n4) rfl rfl rfl (V.pure rfl) (fun a hf => ?_)
      refine S.val hf hs (v := .int .i64 n5) rfl rfl rfl (V.pure rfl) (fun a hf => ?_)
      refine S.val hf hs (v := .int .i64 n4) rfl rfl rfl (V.pure rfl) (fun a hf => ?_)
      refine S.val hf hs (v := .int .i64 (w64 (n5 - n4))) rfl rfl rfl (V.pure rfl) (fun a hf => ?_)
      refine S.val hf hs (v := .int .i64 (max n4 (w64 (n5 - n4)))) rfl rfl rfl (V.max2 rfl rfl rfl) (fun a hf => ?_)
      refine S.val hf hs (v := .int .i64 y2) rfl rfl rfl (V.pure rfl) (fun a hf => ?_)
      refine S.val hf hs (v := .bool ((max n4 (w64 (n5 - n4))) == y2)) rfl rfl rfl (V.pure rfl) (fun a hf => ?_)
      refine S.split hf hs (b := (max n4 (w64 (n5 - n4))) == y2) rfl rfl rfl (V.pure rfl) (fun hc a hf => ?_) (fun hc a hf => ?_)
      · replace h := h.1 hc
        refine S.val hf hs (v := .int .i64 y2) rfl rfl rfl (V.pure rfl) (fun a hf => ?_)
        refine S.val hf hs (v := .int .i64 n6) rfl rfl rfl (V.pure rfl) (fun a hf => ?_)
        refine S.val hf hs (v := .int .i64 n5) rfl rfl rfl (V.pure rfl) (fun a hf => ?_)
        refine S.val hf hs (v := .int .i64 n6) rfl rfl rfl (V.pure rfl) (fun a hf => ?_)
        refine S.val hf hs (v := .int .i64 (w64 (n5 - n6))) rfl rfl rfl (V.pure rfl) (fun a hf => ?_)
        refine S.val hf hs (v := .int .i64 (max n6 (w64 (n5 - n6)))) rfl rfl rfl (V.max2 rfl rfl rfl) (fun a hf => ?_)
        refine S.val hf hs (v := .bool (decide (y2 ≤ max n6 (w64 (n5 - n6))))) rfl rfl rfl (V.pure rfl) (fun a hf => ?_)
        refine S.val hf hs (v := .bool (decide (y2 ≤ max n6 (w64 (n5 - n6))))) rfl rfl rfl (V.pure rfl) (fun a hf => ?_)
        refine S.split hf hs (b := decide (y2 ≤ max n6 (w64 (n5 - n6)))) rfl rfl rfl (V.pure rfl) (fun hc a hf => ?_) (fun hc a hf => ?_)
        · replace h := h.1 hc
          refine S.call hf rfl rfl rfl (call_fn (vs := []) rfl rfl rfl Try.call10) (R_awake  _  _ h) (fun v a w' hf hr => ?_)
          obtain ⟨y5, rfl, h2, hs2⟩ := hr
          replace h := h2; replace hs := hs.call hs2; clear h2 hs2
          refine S.val hf hs (v := .bool y5) rfl rfl rfl (V.pure rfl) (fun a hf => ?_)
          refine S.val hf hs (v := .bool y5) rfl rfl rfl (V.pure rfl) (fun a hf => ?_)
          refine R.nil ?_
          refine X.then_ ?_
          refine wp_ret ?_
          exact L.ret hf (run_results1 Try.results4 (ResIs.tmp hf rfl)) ⟨y5, rfl, h, hs.nil⟩
        · replace h := h.2 hc
          refine S.skip hf rfl rfl rfl (fun a hf => ?_)
          refine S.val hf hs (v := .bool false) rfl rfl rfl (V.pure rfl) (fun a hf => ?_)
          refine S.val hf hs (v := .bool false) rfl rfl rfl (V.pure rfl) (fun a hf => ?_)
          refine R.nil ?_
          refine X.then_ ?_
          refine wp_ret ?_
          exact L.ret hf (run_results1 Try.results4 (ResIs.tmp hf rfl)) ⟨false, rfl, h, hs.nil⟩
      · replace h := h.2 hc
        refine S.skip hf rfl rfl rfl (fun a hf => ?_)
        refine S.skip hf rfl rfl rfl (fun a hf => ?_)
        refine S.skip hf rfl rfl rfl (fun a hf => ?_)
        refine S.skip hf rfl rfl rfl (fun a hf => ?_)
        refine S.skip hf rfl rfl rfl (fun a hf => ?_)
        refine S.skip hf rfl rfl rfl (fun a hf => ?_)
        refine S.skip hf rfl rfl rfl (fun a hf => ?_)
        refine S.val hf hs (v := .bool false) rfl rfl rfl (V.pure rfl) (fun a hf => ?_)
        refine S.val hf hs (v := .bool false) rfl rfl rfl (V.pure rfl) (fun a hf => ?_)
        refine S.skip hf rfl rfl rfl (fun a hf => ?_)
        refine S.val hf hs (v := .bool false) rfl rfl rfl (V.pure rfl) (fun a hf => ?_)
        refine S.val hf hs (v := .bool false) rfl rfl rfl (V.pure rfl) (fun a hf => ?_)
        refine R.nil ?_
        refine X.then_ ?_
        refine wp_ret ?_
        exact L.ret hf (run_results1 Try.results4 (ResIs.tmp hf rfl)) ⟨false, rfl, h, hs.nil⟩
    | cons xk1 llk1 =>
      have hltk1 := range_lt hkk1; have hc := range_go hkk1; have hxk1 := range_get hlk1
      obtain ⟨next1, hnext1⟩ : ∃ X : Int → Int → Int → Prop, X = (fun n4 n5 n6 => forIn' (fun k x (s : Int × Int × Int) next => M_law_BalancedLeast_L1 some y1 k x s.1 s.2.1 s.2.2 (fun n4 n5 n6 => next (n4, n5, n6))) (fun (s : Int × Int × Int) => (fun (n4 : Int) (n5 : Int) (n6 : Int) => cnd ((max n4 (w64 (n5 - n4))) == y2) (cnd (decide (y2 ≤ max n6 (w64 (n5 - n6)))) (M_awake  fun y5 => Q y5) (Q false)) (Q false)) s.1 s.2.1 s.2.2) llk1 (k1 + 1) (n4, n5, n6)) := ⟨_, rfl⟩
      replace h : M_law_BalancedLeast_L1 some y1 k1 xk1 n4 n5 n6 next1 := by rw [hnext1]; exact h
      unfold M_law_BalancedLeast_L1 at h
      refine wp_seq ?_
      refine R.list ?_
      refine S.val hf hs (v := .bool true) rfl rfl rfl (V.cmp true rfl rfl rfl rfl hc) (fun a hf => ?_)
      refine R.nil ?_
      refine X.then_ ?_
      refine wp_seq ?_
      refine C.yes hf rfl ?_
      refine wp_skip ?_
      refine X.then_ ?_
      refine wp_seq ?_
      refine wp_block ?_
      refine wp_seq ?_
      refine R.list ?_
      refine S.val hf hs (v := .int .i64 (k1 : Int)) rfl rfl rfl (V.pure rfl) (fun a hf => ?_)
      refine S.val hf hs (v := elemPtr loadsA (k1 * 1)) rfl rfl rfl (V.index rfl rfl rfl Try.runUnderlying22 Try.sizeOf3 (hv_loads.some_ (lt_of_get hxk1)) (Int.natCast_nonneg _) (lt_of_get hxk1) rfl) (fun a hf => ?_)
      refine S.val hf hs (v := .int .i64 xk1) rfl rfl rfl (V.loadEl (off := 0) (Ag.args _ _ _) (hv_loads.flat hxk1) rfl rfl rfl Try.isAgg3 Try.sizeOf3 rfl rfl) (fun a hf => ?_)
      refine S.val hf hs (v := .int .i64 (k1 : Int)) rfl rfl rfl (V.pure rfl) (fun a hf => ?_)
      refine S.val hf hs (v := .int .i64 xk1) rfl rfl rfl (V.pure rfl) (fun a hf => ?_)
      refine R.nil ?_
      refine X.then_ ?_
      refine wp_seq ?_
      refine R.list ?_
      refine S.val hf hs (v := .int .i64 n5) rfl rfl rfl (V.pure rfl) (fun a hf => ?_)
      refine S.val hf hs (v := .int .i64 xk1) rfl rfl rfl (V.pure rfl) (fun a hf => ?_)
      refine S.val hf hs (v := .int .i64 (w64 (n5 + xk1))) rfl rfl rfl (V.pure rfl) (fun a hf => ?_)
      refine S.val hf hs (v := .int .i64 (w64 (n5 + xk1))) rfl rfl rfl (V.pure rfl) (fun a hf => ?_)
      refine R.nil ?_
      refine X.then_ ?_
      refine wp_seq ?_
      refine C.cut (J := fun a w => ∃ (n7 : Int), M_law_BalancedLeast_k2 some k1 xk1 n5 n6 next1 n7 ∧ FrOk 80 [(1, .slice someA some.length someC), (5, .slice y1A y1.length y1C), (6, .int .i64 y2), (8, .int .i64 n7), (9, .int .i64 (w64 (n5 + xk1))), (10, .int .i64 n6), (11, .int .i64 (k1 : Int)), (12, .int .i64 xk1), (31, .slice loadsA loads.length loadsC), (32, .int .i64 (loads.length : Int)), (33, .int .i64 (k1 : Int))] a ∧ Sat w0 none_ [hown 3 y1A y1C y1] w) ?_ ?_
      · rintro a w ⟨n7, h, hf, hs⟩
        unfold M_law_BalancedLeast_k2 at h
        refine wp_seq ?_
        refine C.cut (J := fun a w => ∃ (c1 : Bool), M_law_BalancedLeast_k3 xk1 n5 n6 next1 n7 c1 ∧ FrOk 80 [(1, .slice someA some.length someC), (5, .slice y1A y1.length y1C), (6, .int .i64 y2), (8, .int .i64 n7), (9, .int .i64 (w64 (n5 + xk1))), (10, .int .i64 n6), (12, .int .i64 xk1), (31, .slice loadsA loads.length loadsC), (32, .int .i64 (loads.length : Int)), (33, .int .i64 (k1 : Int)), (56, .bool c1)] a ∧ Sat w0 none_ [hown 3 y1A y1C y1] w) ?_ ?_
        · rintro a w ⟨c1, h, hf, hs⟩
          unfold M_law_BalancedLeast_k3 at h
          refine C.cond hf (b := c1) rfl (fun hc => ?_) (fun hc => ?_)
          · replace h := h.1 hc
            refine R.list ?_
            refine S.val hf hs (v := .int .i64 n6) rfl rfl rfl (V.pure rfl) (fun a hf => ?_)
            refine S.val hf hs (v := .int .i64 xk1) rfl rfl rfl (V.pure rfl) (fun a hf => ?_)
            refine S.val hf hs (v := .int .i64 (w64 (n6 + xk1))) rfl rfl rfl (V.pure rfl) (fun a hf => ?_)
            refine S.val hf hs (v := .int .i64 (w64 (n6 + xk1))) rfl rfl rfl (V.pure rfl) (fun a hf => ?_)
            refine R.nil ?_
            refine X.blk ?_
            refine X.then_ ?_
            refine R.list ?_
            refine S.val hf hs (v := .int .i64 ((k1 + 1 : Nat) : Int)) rfl rfl rfl (V.incr rfl rfl rfl hltk1 hlenk1) (fun a hf => ?_)
            refine S.val hf hs (v := .int .i64 ((k1 + 1 : Nat) : Int)) rfl rfl rfl (V.pure rfl) (fun a hf => ?_)
            refine R.nil ?_
            refine X.then_ ?_
            exact ⟨xk1, llk1, rfl, k1 + 1, n7, (w64 (n5 + xk1)), (w64 (n6 + xk1)), range_drop hlk1, range_len hkk1, (by rw [hnext1] at h; exact h), (((((((((hf.nil.cons (hf.get 32 _ rfl)).cons (hf.get 31 _ rfl)).cons (hf.get 10 _ rfl)).cons (hf.get 9 _ rfl)).cons (hf.get 8 _ rfl)).cons (hf.get 6 _ rfl)).cons (hf.get 5 _ rfl)).cons (hf.get 1 _ rfl)).cons (hf.get 33 _ rfl)), hs⟩
          · replace h := h.2 hc
            refine wp_skip ?_
            refine X.blk ?_
            refine X.then_ ?_
            refine R.list ?_
            refine S.val hf hs (v := .int .i64 ((k1 + 1 : Nat) : Int)) rfl rfl rfl (V.incr rfl rfl rfl hltk1 hlenk1) (fun a hf => ?_)
            refine S.val hf hs (v := .int .i64 ((k1 + 1 : Nat) : Int)) rfl rfl rfl (V.pure rfl) (fun a hf => ?_)
            refine R.nil ?_
            refine X.then_ ?_
            exact ⟨xk1, llk1, rfl, k1 + 1, n7, (w64 (n5 + xk1)), n6, range_drop hlk1, range_len hkk1, (by rw [hnext1] at h; exact h), (((((((((hf.nil.cons (hf.get 32 _ rfl)).cons (hf.get 31 _ rfl)).cons (hf.get 10 _ rfl)).cons (hf.get 9 _ rfl)).cons (hf.get 8 _ rfl)).cons (hf.get 6 _ rfl)).cons (hf.get 5 _ rfl)).cons (hf.get 1 _ rfl)).cons (hf.get 33 _ rfl)), hs⟩
        · skip
          refine R.list ?_
          refine S.val hf hs (v := .int .i64 (k1 : Int)) rfl rfl rfl (V.pure rfl) (fun a hf => ?_)
          refine S.val hf hs (v := .slice someA some.length someC) rfl rfl rfl (V.pure rfl) (fun a hf => ?_)
          refine S.val hf hs (v := .int .i64 (some.length : Int)) rfl rfl rfl (V.len rfl rfl Try.runUnderlying29) (fun a hf => ?_)
          refine S.val hf hs (v := .bool (decide ((k1 : Int) < (some.length : Int)))) rfl rfl rfl (V.pure rfl) (fun a hf => ?_)
          refine S.split hf hs (b := decide ((k1 : Int) < (some.length : Int))) rfl rfl rfl (V.pure rfl) (fun hc a hf => ?_) (fun hc a hf => ?_)
          · replace h := h.1 hc
            refine S.val hf hs (v := .slice someA some.length someC) rfl rfl rfl (V.pure rfl) (fun a hf => ?_)
            refine S.val hf hs (v := .int .i64 (k1 : Int)) rfl rfl rfl (V.pure rfl) (fun a hf => ?_)
            obtain ⟨h0x1, x1, hx1, h⟩ := h
            refine S.val hf hs (v := elemPtr someA (k1 * 1)) rfl rfl rfl (V.index rfl rfl rfl Try.runUnderlying29 Try.sizeOf4 (hv_some.some_ (lt_of_get hx1)) (Int.natCast_nonneg _) (lt_of_get hx1) rfl) (fun a hf => ?_)
            refine S.val hf hs (v := .bool x1) rfl rfl rfl (V.loadEl (off := 0) (Ag.args _ _ _) (hv_some.flat hx1) rfl rfl rfl Try.isAgg4 Try.sizeOf4 rfl rfl) (fun a hf => ?_)
            refine S.val hf hs (v := .bool x1) rfl rfl rfl (V.pure rfl) (fun a hf => ?_)
            refine R.nil ?_
            refine X.then_ ?_
            exact ⟨x1, h, (((((((((((hf.nil.cons (hf.get 56 _ rfl)).cons (hf.get 33 _ rfl)).cons (hf.get 32 _ rfl)).cons (hf.get 31 _ rfl)).cons (hf.get 12 _ rfl)).cons (hf.get 10 _ rfl)).cons (hf.get 9 _ rfl)).cons (hf.get 8 _ rfl)).cons (hf.get 6 _ rfl)).cons (hf.get 5 _ rfl)).cons (hf.get 1 _ rfl)), hs⟩
          · replace h := h.2 hc
            refine S.skip hf rfl rfl rfl (fun a hf => ?_)
            refine S.skip hf rfl rfl rfl (fun a hf => ?_)
            refine S.skip hf rfl rfl rfl (fun a hf => ?_)
            refine S.skip hf rfl rfl rfl (fun a hf => ?_)
            refine S.val hf hs (v := .bool false) rfl rfl rfl (V.pure rfl) (fun a hf => ?_)
            refine R.nil ?_
            refine X.then_ ?_
            exact ⟨false, h, (((((((((((hf.nil.cons (hf.get 56 _ rfl)).cons (hf.get 33 _ rfl)).cons (hf.get 32 _ rfl)).cons (hf.get 31 _ rfl)).cons (hf.get 12 _ rfl)).cons (hf.get 10 _ rfl)).cons (hf.get 9 _ rfl)).cons (hf.get 8 _ rfl)).cons (hf.get 6 _ rfl)).cons (hf.get 5 _ rfl)).cons (hf.get 1 _ rfl)), hs⟩
      · skip
        refine wp_seq ?_
        refine R.list ?_
        refine S.val hf hs (v := .slice y1A y1.length y1C) rfl rfl rfl (V.pure rfl) (fun a hf => ?_)
        refine S.val hf hs (v := .int .i64 (k1 : Int)) rfl rfl rfl (V.pure rfl) (fun a hf => ?_)
        refine S.call hf rfl rfl rfl (call_fn (vs := [.slice y1A y1.length y1C, .int .i64 (k1 : Int)]) rfl rfl rfl Try.call11) (R_contains_int y1 (k1 : Int) _ y1A y1C (hs.ownView 0 rfl) _ h) (fun v a w' hf hr => ?_)
        obtain ⟨y6, rfl, h2, hs2⟩ := hr
        replace h := h2; replace hs := hs.call hs2; clear h2 hs2
        refine R.nil ?_
        refine X.then_ ?_
        refine C.cond hf (b := y6) rfl (fun hc => ?_) (fun hc => ?_)
        · replace h := h.1 hc
          refine R.list ?_
          refine S.val hf hs (v := .int .i64 n4) rfl rfl rfl (V.pure rfl) (fun a hf => ?_)
          refine S.val hf hs (v := .int .i64 xk1) rfl rfl rfl (V.pure rfl) (fun a hf => ?_)
          refine S.val hf hs (v := .int .i64 (w64 (n4 + xk1))) rfl rfl rfl (V.pure rfl) (fun a hf => ?_)
          refine S.val hf hs (v := .int .i64 (w64 (n4 + xk1))) rfl rfl rfl (V.pure rfl) (fun a hf => ?_)
          refine R.nil ?_
          refine X.then_ ?_
          exact ⟨(w64 (n4 + xk1)), h, (((((((((((hf.nil.cons (hf.get 33 _ rfl)).cons (hf.get 32 _ rfl)).cons (hf.get 31 _ rfl)).cons (hf.get 12 _ rfl)).cons (hf.get 11 _ rfl)).cons (hf.get 10 _ rfl)).cons (hf.get 9 _ rfl)).cons (hf.get 8 _ rfl)).cons (hf.get 6 _ rfl)).cons (hf.get 5 _ rfl)).cons (hf.get 1 _ rfl)), hs⟩
        · replace h := h.2 hc
          refine wp_skip ?_
          refine X.then_ ?_
          exact ⟨n4, h, (((((((((((hf.nil.cons (hf.get 33 _ rfl)).cons (hf.get 32 _ rfl)).cons (hf.get 31 _ rfl)).cons (hf.get 12 _ rfl)).cons (hf.get 11 _ rfl)).cons (hf.get 10 _ rfl)).cons (hf.get 9 _ rfl)).cons (hf.get 8 _ rfl)).cons (hf.get 6 _ rfl)).cons (hf.get 5 _ rfl)).cons (hf.get 1 _ rfl)), hs⟩

end Go.Proofs.Ytcmlcgjjkccaeaa

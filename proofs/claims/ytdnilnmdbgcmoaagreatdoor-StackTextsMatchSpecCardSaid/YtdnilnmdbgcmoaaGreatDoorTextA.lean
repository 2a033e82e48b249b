/- Chapter 4: words, materials, stacks: the walks. -/
import Derived.Test.YtdnilnmdbgcmoaaGreatDoorTypes
namespace Go.Proofs.YtdnilnmdbgcmoaaGreatDoor
open Go Go.RowKit
set_option linter.unusedVariables false

def within (n lo hi : Int) : Bool := decide (lo ≤ n) && decide (n ≤ hi)
set_option linter.unusedVariables false
def M_stack_within (n : Int) (lo : Int) (hi : Int) (Q : Bool → Prop) : Prop :=
  cnd (decide (n ≥ lo)) (Q (decide (n ≤ hi))) (Q false)
set_option maxHeartbeats 1000000 in
theorem R_stack_within (n : Int) (lo : Int) (hi : Int) (w0 : World)  (Q : Bool → Prop) (h : M_stack_within n lo hi Q) :
    Ret Tryz.prog 144 #[.int .i64 n, .int .i64 lo, .int .i64 hi] w0 fun v w' => ∃ (r0 : Bool), v = .bool r0 ∧ Q r0 ∧ Sat w0 none_ [] w' := by
  refine fn_enter Tryz.func144 rfl Tryz.ntmps144 rfl (fs := [(0, .int .i64 n), (1, .int .i64 lo), (2, .int .i64 hi)]) rfl (fun a hf => ?_)
  have hs := Sat.start w0 none_
  unfold M_stack_within at h
  refine wp_seq ?_
  refine R.list ?_
  refine S.val hf hs (v := .bool false) rfl rfl rfl (V.pure rfl) (fun a hf => ?_)
  refine R.nil ?_
  refine X.then_ ?_
  refine wp_seq ?_
  refine R.list ?_
  refine S.val hf hs (v := .int .i64 n) rfl rfl rfl (V.pure rfl) (fun a hf => ?_)
  refine S.val hf hs (v := .int .i64 lo) rfl rfl rfl (V.pure rfl) (fun a hf => ?_)
  refine S.val hf hs (v := .bool (decide (n ≥ lo))) rfl rfl rfl (V.pure rfl) (fun a hf => ?_)
  refine S.split hf hs (b := decide (n ≥ lo)) rfl rfl rfl (V.pure rfl) (fun hc a hf => ?_) (fun hc a hf => ?_)
  · replace h := h.1 hc
    refine S.val hf hs (v := .int .i64 n) rfl rfl rfl (V.pure rfl) (fun a hf => ?_)
    refine S.val hf hs (v := .int .i64 hi) rfl rfl rfl (V.pure rfl) (fun a hf => ?_)
    refine S.val hf hs (v := .bool (decide (n ≤ hi))) rfl rfl rfl (V.pure rfl) (fun a hf => ?_)
    refine S.val hf hs (v := .bool (decide (n ≤ hi))) rfl rfl rfl (V.pure rfl) (fun a hf => ?_)
    refine S.val hf hs (v := .bool (decide (n ≤ hi))) rfl rfl rfl (V.pure rfl) (fun a hf => ?_)
    refine R.nil ?_
    refine X.then_ ?_
    refine wp_ret ?_
    exact L.ret hf (run_results1 Tryz.results144 (ResIs.tmp hf rfl)) ⟨(decide (n ≤ hi)), rfl, h, hs.nil⟩
  · replace h := h.2 hc
    refine S.skip hf rfl rfl rfl (fun a hf => ?_)
    refine S.skip hf rfl rfl rfl (fun a hf => ?_)
    refine S.skip hf rfl rfl rfl (fun a hf => ?_)
    refine S.val hf hs (v := .bool false) rfl rfl rfl (V.pure rfl) (fun a hf => ?_)
    refine S.val hf hs (v := .bool false) rfl rfl rfl (V.pure rfl) (fun a hf => ?_)
    refine R.nil ?_
    refine X.then_ ?_
    refine wp_ret ?_
    exact L.ret hf (run_results1 Tryz.results144 (ResIs.tmp hf rfl)) ⟨false, rfl, h, hs.nil⟩

theorem E_stack_within (n lo hi : Int) : M_stack_within n lo hi (· = within n lo hi) := by
  unfold M_stack_within within; constructor <;> intro h <;> simp_all <;> omega
theorem C_stack_within (n : Int) (lo : Int) (hi : Int) (w0 : World)  : Ret Tryz.prog 144 #[.int .i64 n, .int .i64 lo, .int .i64 hi] w0 fun v w' => v = .bool (within n lo hi) ∧ Sat w0 none_ [] w' :=
  (R_stack_within n lo hi w0  (· = (within n lo hi)) (E_stack_within n lo hi)).mono fun v w' ⟨r0, hv, hr, hs⟩ => ⟨by subst hr; exact hv, hs⟩

set_option linter.unusedVariables false
def M_ref4_within (n : Int) (lo : Int) (hi : Int) (Q : Bool → Prop) : Prop :=
  cnd (decide (lo ≤ n)) (Q (decide (n ≤ hi))) (Q false)
set_option maxHeartbeats 1000000 in
theorem R_ref4_within (n : Int) (lo : Int) (hi : Int) (w0 : World)  (Q : Bool → Prop) (h : M_ref4_within n lo hi Q) :
    Ret Tryz.prog 153 #[.int .i64 n, .int .i64 lo, .int .i64 hi] w0 fun v w' => ∃ (r0 : Bool), v = .bool r0 ∧ Q r0 ∧ Sat w0 none_ [] w' := by
  refine fn_enter Tryz.func153 rfl Tryz.ntmps153 rfl (fs := [(0, .int .i64 n), (1, .int .i64 lo), (2, .int .i64 hi)]) rfl (fun a hf => ?_)
  have hs := Sat.start w0 none_
  unfold M_ref4_within at h
  refine wp_seq ?_
  refine R.list ?_
  refine S.val hf hs (v := .bool false) rfl rfl rfl (V.pure rfl) (fun a hf => ?_)
  refine R.nil ?_
  refine X.then_ ?_
  refine wp_seq ?_
  refine R.list ?_
  refine S.val hf hs (v := .int .i64 lo) rfl rfl rfl (V.pure rfl) (fun a hf => ?_)
  refine S.val hf hs (v := .int .i64 n) rfl rfl rfl (V.pure rfl) (fun a hf => ?_)
  refine S.val hf hs (v := .bool (decide (lo ≤ n))) rfl rfl rfl (V.pure rfl) (fun a hf => ?_)
  refine S.split hf hs (b := decide (lo ≤ n)) rfl rfl rfl (V.pure rfl) (fun hc a hf => ?_) (fun hc a hf => ?_)
  · replace h := h.1 hc
    refine S.val hf hs (v := .int .i64 n) rfl rfl rfl (V.pure rfl) (fun a hf => ?_)
    refine S.val hf hs (v := .int .i64 hi) rfl rfl rfl (V.pure rfl) (fun a hf => ?_)
    refine S.val hf hs (v := .bool (decide (n ≤ hi))) rfl rfl rfl (V.pure rfl) (fun a hf => ?_)
    refine S.val hf hs (v := .bool (decide (n ≤ hi))) rfl rfl rfl (V.pure rfl) (fun a hf => ?_)
    refine S.val hf hs (v := .bool (decide (n ≤ hi))) rfl rfl rfl (V.pure rfl) (fun a hf => ?_)
    refine R.nil ?_
    refine X.then_ ?_
    refine wp_ret ?_
    exact L.ret hf (run_results1 Tryz.results153 (ResIs.tmp hf rfl)) ⟨(decide (n ≤ hi)), rfl, h, hs.nil⟩
  · replace h := h.2 hc
    refine S.skip hf rfl rfl rfl (fun a hf => ?_)
    refine S.skip hf rfl rfl rfl (fun a hf => ?_)
    refine S.skip hf rfl rfl rfl (fun a hf => ?_)
    refine S.val hf hs (v := .bool false) rfl rfl rfl (V.pure rfl) (fun a hf => ?_)
    refine S.val hf hs (v := .bool false) rfl rfl rfl (V.pure rfl) (fun a hf => ?_)
    refine R.nil ?_
    refine X.then_ ?_
    refine wp_ret ?_
    exact L.ret hf (run_results1 Tryz.results153 (ResIs.tmp hf rfl)) ⟨false, rfl, h, hs.nil⟩

theorem E_ref4_within (n lo hi : Int) : M_ref4_within n lo hi (· = within n lo hi) := by
  unfold M_ref4_within within; constructor <;> intro h <;> simp_all <;> omega
theorem C_ref4_within (n : Int) (lo : Int) (hi : Int) (w0 : World)  : Ret Tryz.prog 153 #[.int .i64 n, .int .i64 lo, .int .i64 hi] w0 fun v w' => v = .bool (within n lo hi) ∧ Sat w0 none_ [] w' :=
  (R_ref4_within n lo hi w0  (· = (within n lo hi)) (E_ref4_within n lo hi)).mono fun v w' ⟨r0, hv, hr, hs⟩ => ⟨by subst hr; exact hv, hs⟩

set_option linter.unusedVariables false
def M_lite_IndexByte (s_ : Str) (c : Int) (Q : Int → Prop) : Prop :=
  Q (byteAt s_ c)
set_option maxHeartbeats 1000000 in
theorem R_lite_IndexByte (s_ : Str) (c : Int) (w0 : World)  (Q : Int → Prop) (h : M_lite_IndexByte s_ c Q) :
    Ret Tryz.prog 187 #[.string (ba s_), .int .u8 c] w0 fun v w' => ∃ (r0 : Int), v = .int .i64 r0 ∧ Q r0 ∧ Sat w0 none_ [] w' := by
  refine fn_enter Tryz.func187 rfl Tryz.ntmps187 rfl (fs := [(0, .string (ba s_)), (1, .int .u8 c)]) rfl (fun a hf => ?_)
  have hs := Sat.start w0 none_
  unfold M_lite_IndexByte at h
  refine wp_seq ?_
  refine R.list ?_
  refine S.val hf hs (v := .int .i64 0) rfl rfl rfl (V.pure rfl) (fun a hf => ?_)
  refine R.nil ?_
  refine X.then_ ?_
  refine wp_seq ?_
  refine R.list ?_
  refine S.val hf hs (v := .string (ba s_)) rfl rfl rfl (V.pure rfl) (fun a hf => ?_)
  refine S.val hf hs (v := .int .u8 c) rfl rfl rfl (V.pure rfl) (fun a hf => ?_)
  refine S.val hf hs (v := .int .i64 (byteAt s_ c)) rfl rfl rfl (V.extern Tryz.func223 (by kernel_rfl) (by kernel_rfl) (by kernel_rfl) (by kernel_rfl) rfl rfl rfl (run_byteAt _ _)) (fun a hf => ?_)
  refine S.val hf hs (v := .int .i64 (byteAt s_ c)) rfl rfl rfl (V.pure rfl) (fun a hf => ?_)
  refine R.nil ?_
  refine X.then_ ?_
  refine wp_ret ?_
  exact L.ret hf (run_results1 Tryz.results187 (ResIs.tmp hf rfl)) ⟨(byteAt s_ c), rfl, h, hs.nil⟩

theorem E_lite_IndexByte (s : Str) (c : Int) : M_lite_IndexByte s c (· = byteAt s c) := rfl
theorem C_lite_IndexByte (s_ : Str) (c : Int) (w0 : World)  : Ret Tryz.prog 187 #[.string (ba s_), .int .u8 c] w0 fun v w' => v = .int .i64 (byteAt s_ c) ∧ Sat w0 none_ [] w' :=
  (R_lite_IndexByte s_ c w0  (· = (byteAt s_ c)) (E_lite_IndexByte s_ c)).mono fun v w' ⟨r0, hv, hr, hs⟩ => ⟨by subst hr; exact hv, hs⟩

set_option linter.unusedVariables false
def M_strings_IndexByte (s_ : Str) (c : Int) (Q : Int → Prop) : Prop :=
  Q (byteAt s_ c)
set_option maxHeartbeats 1000000 in
theorem R_strings_IndexByte (s_ : Str) (c : Int) (w0 : World)  (Q : Int → Prop) (h : M_strings_IndexByte s_ c Q) :
    Ret Tryz.prog 148 #[.string (ba s_), .int .u8 c] w0 fun v w' => ∃ (r0 : Int), v = .int .i64 r0 ∧ Q r0 ∧ Sat w0 none_ [] w' := by
  refine fn_enter Tryz.func148 rfl Tryz.ntmps148 rfl (fs := [(0, .string (ba s_)), (1, .int .u8 c)]) rfl (fun a hf => ?_)
  have hs := Sat.start w0 none_
  unfold M_strings_IndexByte at h
  refine wp_seq ?_
  refine R.list ?_
  refine S.val hf hs (v := .int .i64 0) rfl rfl rfl (V.pure rfl) (fun a hf => ?_)
  refine R.nil ?_
  refine X.then_ ?_
  refine wp_seq ?_
  refine R.list ?_
  refine S.val hf hs (v := .string (ba s_)) rfl rfl rfl (V.pure rfl) (fun a hf => ?_)
  refine S.val hf hs (v := .int .u8 c) rfl rfl rfl (V.pure rfl) (fun a hf => ?_)
  refine S.callv hf rfl rfl rfl (call_fn (vs := [.string (ba s_), .int .u8 c]) rfl rfl rfl Tryz.call187) (C_lite_IndexByte s_ c _ ) (fun a w hf hs' => ?_)
  replace hs := hs.call hs'; clear hs'
  refine S.val hf hs (v := .int .i64 (byteAt s_ c)) rfl rfl rfl (V.pure rfl) (fun a hf => ?_)
  refine R.nil ?_
  refine X.then_ ?_
  refine wp_ret ?_
  exact L.ret hf (run_results1 Tryz.results148 (ResIs.tmp hf rfl)) ⟨(byteAt s_ c), rfl, h, hs.nil⟩

theorem E_strings_IndexByte (s : Str) (c : Int) : M_strings_IndexByte s c (· = byteAt s c) := rfl
theorem C_strings_IndexByte (s_ : Str) (c : Int) (w0 : World)  : Ret Tryz.prog 148 #[.string (ba s_), .int .u8 c] w0 fun v w' => v = .int .i64 (byteAt s_ c) ∧ Sat w0 none_ [] w' :=
  (R_strings_IndexByte s_ c w0  (· = (byteAt s_ c)) (E_strings_IndexByte s_ c)).mono fun v w' ⟨r0, hv, hr, hs⟩ => ⟨by subst hr; exact hv, hs⟩

set_option linter.unusedVariables false
def M_bytealg_CompareString (a_ : Str) (b : Str) (Q : Int → Prop) : Prop :=
  Q (cmpStr a_ b)
set_option maxHeartbeats 1000000 in
theorem R_bytealg_CompareString (a_ : Str) (b : Str) (w0 : World)  (Q : Int → Prop) (h : M_bytealg_CompareString a_ b Q) :
    Ret Tryz.prog 200 #[.string (ba a_), .string (ba b)] w0 fun v w' => ∃ (r0 : Int), v = .int .i64 r0 ∧ Q r0 ∧ Sat w0 none_ [] w' := by
  refine fn_enter Tryz.func200 rfl Tryz.ntmps200 rfl (fs := [(0, .string (ba a_)), (1, .string (ba b))]) rfl (fun a hf => ?_)
  have hs := Sat.start w0 none_
  unfold M_bytealg_CompareString at h
  refine wp_seq ?_
  refine R.list ?_
  refine S.val hf hs (v := .int .i64 0) rfl rfl rfl (V.pure rfl) (fun a hf => ?_)
  refine R.nil ?_
  refine X.then_ ?_
  refine wp_seq ?_
  refine R.list ?_
  refine S.val hf hs (v := .string (ba a_)) rfl rfl rfl (V.pure rfl) (fun a hf => ?_)
  refine S.val hf hs (v := .string (ba b)) rfl rfl rfl (V.pure rfl) (fun a hf => ?_)
  refine S.val hf hs (v := .int .i64 (cmpStr a_ b)) rfl rfl rfl (V.extern Tryz.func233 (by kernel_rfl) (by kernel_rfl) (by kernel_rfl) (by kernel_rfl) rfl rfl rfl (run_cmpStr _ _)) (fun a hf => ?_)
  refine S.val hf hs (v := .int .i64 (cmpStr a_ b)) rfl rfl rfl (V.pure rfl) (fun a hf => ?_)
  refine R.nil ?_
  refine X.then_ ?_
  refine wp_ret ?_
  exact L.ret hf (run_results1 Tryz.results200 (ResIs.tmp hf rfl)) ⟨(cmpStr a_ b), rfl, h, hs.nil⟩

theorem E_bytealg_CompareString (a b : Str) : M_bytealg_CompareString a b (· = cmpStr a b) := rfl
theorem C_bytealg_CompareString (a_ : Str) (b : Str) (w0 : World)  : Ret Tryz.prog 200 #[.string (ba a_), .string (ba b)] w0 fun v w' => v = .int .i64 (cmpStr a_ b) ∧ Sat w0 none_ [] w' :=
  (R_bytealg_CompareString a_ b w0  (· = (cmpStr a_ b)) (E_bytealg_CompareString a_ b)).mono fun v w' ⟨r0, hv, hr, hs⟩ => ⟨by subst hr; exact hv, hs⟩

set_option linter.unusedVariables false
def M_strings_Compare (a_ : Str) (b : Str) (Q : Int → Prop) : Prop :=
  Q (cmpStr a_ b)
set_option maxHeartbeats 1000000 in
theorem R_strings_Compare (a_ : Str) (b : Str) (w0 : World)  (Q : Int → Prop) (h : M_strings_Compare a_ b Q) :
    Ret Tryz.prog 147 #[.string (ba a_), .string (ba b)] w0 fun v w' => ∃ (r0 : Int), v = .int .i64 r0 ∧ Q r0 ∧ Sat w0 none_ [] w' := by
  refine fn_enter Tryz.func147 rfl Tryz.ntmps147 rfl (fs := [(0, .string (ba a_)), (1, .string (ba b))]) rfl (fun a hf => ?_)
  have hs := Sat.start w0 none_
  unfold M_strings_Compare at h
  refine wp_seq ?_
  refine R.list ?_
  refine S.val hf hs (v := .int .i64 0) rfl rfl rfl (V.pure rfl) (fun a hf => ?_)
  refine R.nil ?_
  refine X.then_ ?_
  refine wp_seq ?_
  refine R.list ?_
  refine S.val hf hs (v := .string (ba a_)) rfl rfl rfl (V.pure rfl) (fun a hf => ?_)
  refine S.val hf hs (v := .string (ba b)) rfl rfl rfl (V.pure rfl) (fun a hf => ?_)
  refine S.callv hf rfl rfl rfl (call_fn (vs := [.string (ba a_), .string (ba b)]) rfl rfl rfl Tryz.call200) (C_bytealg_CompareString a_ b _ ) (fun a w hf hs' => ?_)
  replace hs := hs.call hs'; clear hs'
  refine S.val hf hs (v := .int .i64 (cmpStr a_ b)) rfl rfl rfl (V.pure rfl) (fun a hf => ?_)
  refine R.nil ?_
  refine X.then_ ?_
  refine wp_ret ?_
  exact L.ret hf (run_results1 Tryz.results147 (ResIs.tmp hf rfl)) ⟨(cmpStr a_ b), rfl, h, hs.nil⟩

theorem E_strings_Compare (a b : Str) : M_strings_Compare a b (· = cmpStr a b) := rfl
theorem C_strings_Compare (a_ : Str) (b : Str) (w0 : World)  : Ret Tryz.prog 147 #[.string (ba a_), .string (ba b)] w0 fun v w' => v = .int .i64 (cmpStr a_ b) ∧ Sat w0 none_ [] w' :=
  (R_strings_Compare a_ b w0  (· = (cmpStr a_ b)) (E_strings_Compare a_ b)).mono fun v w' ⟨r0, hv, hr, hs⟩ => ⟨by subst hr; exact hv, hs⟩

set_option linter.unusedVariables false
def M_netlist_IsWord_k2 (Q : Bool → Prop) (n2 : Int) (again1 : Int → Prop) (c1 : Bool) : Prop :=
  cnd c1 (Q false) (again1 (w64 (n2 + 1)))
def M_netlist_IsWord_L1 (s_ : Str) (Q : Bool → Prop) (again1 : Int → Prop) (n2 : Int) : Prop :=
  cnd (decide (n2 < (s_.length : Int))) (idx s_ n2 fun x1 => cnd (decide ((x1.toNat : Int) < 65)) (cnd (decide ((x1.toNat : Int) < 97)) (cnd (decide ((x1.toNat : Int) < 48)) (M_netlist_IsWord_k2 Q n2 again1 (decide ((byteAt [95, 43, 45, 35] (x1.toNat : Int)) < 0))) (cnd (decide ((x1.toNat : Int) > 57)) (M_netlist_IsWord_k2 Q n2 again1 (decide ((byteAt [95, 43, 45, 35] (x1.toNat : Int)) < 0))) (M_netlist_IsWord_k2 Q n2 again1 false))) (cnd (decide ((x1.toNat : Int) > 122)) (cnd (decide ((x1.toNat : Int) < 48)) (M_netlist_IsWord_k2 Q n2 again1 (decide ((byteAt [95, 43, 45, 35] (x1.toNat : Int)) < 0))) (cnd (decide ((x1.toNat : Int) > 57)) (M_netlist_IsWord_k2 Q n2 again1 (decide ((byteAt [95, 43, 45, 35] (x1.toNat : Int)) < 0))) (M_netlist_IsWord_k2 Q n2 again1 false))) (M_netlist_IsWord_k2 Q n2 again1 false))) (cnd (decide ((x1.toNat : Int) > 90)) (cnd (decide ((x1.toNat : Int) < 97)) (cnd (decide ((x1.toNat : Int) < 48)) (M_netlist_IsWord_k2 Q n2 again1 (decide ((byteAt [95, 43, 45, 35] (x1.toNat : Int)) < 0))) (cnd (decide ((x1.toNat : Int) > 57)) (M_netlist_IsWord_k2 Q n2 again1 (decide ((byteAt [95, 43, 45, 35] (x1.toNat : Int)) < 0))) (M_netlist_IsWord_k2 Q n2 again1 false))) (cnd (decide ((x1.toNat : Int) > 122)) (cnd (decide ((x1.toNat : Int) < 48)) (M_netlist_IsWord_k2 Q n2 again1 (decide ((byteAt [95, 43, 45, 35] (x1.toNat : Int)) < 0))) (cnd (decide ((x1.toNat : Int) > 57)) (M_netlist_IsWord_k2 Q n2 again1 (decide ((byteAt [95, 43, 45, 35] (x1.toNat : Int)) < 0))) (M_netlist_IsWord_k2 Q n2 again1 false))) (M_netlist_IsWord_k2 Q n2 again1 false))) (M_netlist_IsWord_k2 Q n2 again1 false))) (cnd (decide ((s_.length : Int) ≥ 1)) (Q (decide ((s_.length : Int) ≤ 40))) (Q false))
def M_netlist_IsWord (s_ : Str) (Q : Bool → Prop) : Prop :=
  lp (fun again (s : Int) => M_netlist_IsWord_L1 s_ Q (fun n2 => again n2) s) 0
set_option maxHeartbeats 1000000 in
theorem R_netlist_IsWord (s_ : Str) (w0 : World)  (Q : Bool → Prop) (h : M_netlist_IsWord s_ Q) :
    Ret Tryz.prog 87 #[.string (ba s_)] w0 fun v w' => ∃ (r0 : Bool), v = .bool r0 ∧ Q r0 ∧ Sat w0 none_ [] w' := by
  refine fn_enter Tryz.func87 rfl Tryz.ntmps87 rfl (fs := [(0, .string (ba s_))]) rfl (fun a hf => ?_)
  have hs := Sat.start w0 none_
  unfold M_netlist_IsWord at h
  refine wp_seq ?_
  refine R.list ?_
  refine S.val hf hs (v := .bool false) rfl rfl rfl (V.pure rfl) (fun a hf => ?_)
  refine R.nil ?_
  refine X.then_ ?_
  refine wp_seq ?_
  refine wp_seq ?_
  refine R.list ?_
  refine S.val hf hs (v := .string (ba s_)) rfl rfl rfl (V.pure rfl) (fun a hf => ?_)
  refine S.val hf hs (v := .int .i64 (s_.length : Int)) rfl rfl rfl (V.lenStr rfl rfl Tryz.runUnderlying9) (fun a hf => ?_)
  refine S.val hf hs (v := .int .i64 0) rfl rfl rfl (V.pure rfl) (fun a hf => ?_)
  refine R.nil ?_
  refine X.then_ ?_
  refine wp_block ?_
  obtain ⟨kk, h⟩ := h
  refine C.loop (fun kk a w => ∃ (n2 : Int), iterF (fun again (s : Int) => M_netlist_IsWord_L1 s_ Q (fun n2 => again n2) s) kk n2 ∧ FrOk 49 [(0, .string (ba s_)), (6, .int .i64 (s_.length : Int)), (7, .int .i64 n2)] a ∧ Sat w0 none_ [] w) kk ⟨0, h, (((hf.nil.cons (hf.get 7 _ rfl)).cons (hf.get 6 _ rfl)).cons (hf.get 0 _ rfl)), hs⟩ (fun a w ⟨_, h, _, _⟩ => h) ?_
  clear h hf hs
  rintro kk a w ⟨n2, h, hf, hs⟩
  obtain ⟨again1, hagain1⟩ : ∃ X : Int → Prop, X = (fun n2 => iterF (fun again (s : Int) => M_netlist_IsWord_L1 s_ Q (fun n2 => again n2) s) kk n2) := ⟨_, rfl⟩
  replace h : M_netlist_IsWord_L1 s_ Q again1 n2 := by rw [hagain1]; exact h
  unfold M_netlist_IsWord_L1 at h
  refine wp_seq ?_
  refine R.list ?_
  refine S.val hf hs (v := .bool (decide (n2 < (s_.length : Int)))) rfl rfl rfl (V.pure rfl) (fun a hf => ?_)
  refine R.nil ?_
  refine X.then_ ?_
  refine wp_seq ?_
  refine C.cond hf (b := decide (n2 < (s_.length : Int))) rfl (fun hc => ?_) (fun hc => ?_)
  · replace h := h.1 hc
    refine wp_skip ?_
    refine X.then_ ?_
    refine wp_seq ?_
    refine wp_block ?_
    refine wp_seq ?_
    refine R.list ?_
    refine S.val hf hs (v := .int .i64 n2) rfl rfl rfl (V.pure rfl) (fun a hf => ?_)
    refine S.val hf hs (v := .int .i64 n2) rfl rfl rfl (V.pure rfl) (fun a hf => ?_)
    refine R.nil ?_
    refine X.then_ ?_
    refine wp_seq ?_
    refine R.list ?_
    refine S.val hf hs (v := .string (ba s_)) rfl rfl rfl (V.pure rfl) (fun a hf => ?_)
    refine S.val hf hs (v := .int .i64 n2) rfl rfl rfl (V.pure rfl) (fun a hf => ?_)
    obtain ⟨h0x1, x1, hx1, h⟩ := h
    refine S.val hf hs (v := .int .u8 (x1.toNat : Int)) rfl rfl rfl (V.indexStr rfl rfl rfl Tryz.runUnderlying9 h0x1 hx1) (fun a hf => ?_)
    refine S.val hf hs (v := .int .u8 (x1.toNat : Int)) rfl rfl rfl (V.pure rfl) (fun a hf => ?_)
    refine R.nil ?_
    refine X.then_ ?_
    refine wp_seq ?_
    refine C.cut (J := fun a w => ∃ (c1 : Bool), M_netlist_IsWord_k2 Q n2 again1 c1 ∧ FrOk 49 [(0, .string (ba s_)), (6, .int .i64 (s_.length : Int)), (7, .int .i64 n2), (39, .bool c1)] a ∧ Sat w0 none_ [] w) ?_ ?_
    · rintro a w ⟨c1, h, hf, hs⟩
      unfold M_netlist_IsWord_k2 at h
      refine C.cond hf (b := c1) rfl (fun hc => ?_) (fun hc => ?_)
      · replace h := h.1 hc
        refine wp_seq ?_
        refine R.list ?_
        refine S.val hf hs (v := .bool false) rfl rfl rfl (V.pure rfl) (fun a hf => ?_)
        refine R.nil ?_
        refine X.then_ ?_
        refine wp_ret ?_
        refine X.blk_ret ?_
        refine X.then_ret ?_
        refine X.then_ret ?_
        refine X.blk_ret ?_
        refine X.then_ret ?_
        exact L.ret hf (run_results1 Tryz.results87 (ResIs.tmp hf rfl)) ⟨false, rfl, h, hs.nil⟩
      · replace h := h.2 hc
        refine wp_skip ?_
        refine X.blk ?_
        refine X.then_ ?_
        refine R.list ?_
        refine S.val hf hs (v := .int .i64 (w64 (n2 + 1))) rfl rfl rfl (V.pure rfl) (fun a hf => ?_)
        refine S.val hf hs (v := .int .i64 (w64 (n2 + 1))) rfl rfl rfl (V.pure rfl) (fun a hf => ?_)
        refine R.nil ?_
        refine X.then_ ?_
        exact ⟨(w64 (n2 + 1)), (by rw [hagain1] at h; exact h), (((hf.nil.cons (hf.get 7 _ rfl)).cons (hf.get 6 _ rfl)).cons (hf.get 0 _ rfl)), hs⟩
    · skip
      refine R.list ?_
      refine S.val hf hs (v := .int .u8 (x1.toNat : Int)) rfl rfl rfl (V.pure rfl) (fun a hf => ?_)
      refine S.val hf hs (v := .bool (decide ((x1.toNat : Int) < 65))) rfl rfl rfl (V.pure rfl) (fun a hf => ?_)
      refine S.split hf hs (b := decide ((x1.toNat : Int) < 65)) rfl rfl rfl (V.pure rfl) (fun hc a hf => ?_) (fun hc a hf => ?_)
      · replace h := h.1 hc
        refine S.skip hf rfl rfl rfl (fun a hf => ?_)
        refine S.skip hf rfl rfl rfl (fun a hf => ?_)
        refine S.val hf hs (v := .bool true) rfl rfl rfl (V.pure rfl) (fun a hf => ?_)
        refine S.val hf hs (v := .bool true) rfl rfl rfl (V.pure rfl) (fun a hf => ?_)
        refine S.val hf hs (v := .int .u8 (x1.toNat : Int)) rfl rfl rfl (V.pure rfl) (fun a hf => ?_)
        refine S.val hf hs (v := .bool (decide ((x1.toNat : Int) < 97))) rfl rfl rfl (V.pure rfl) (fun a hf => ?_)
        refine S.split hf hs (b := decide ((x1.toNat : Int) < 97)) rfl rfl rfl (V.pure rfl) (fun hc a hf => ?_) (fun hc a hf => ?_)
        · replace h := h.1 hc
          refine S.skip hf rfl rfl rfl (fun a hf => ?_)
          refine S.skip hf rfl rfl rfl (fun a hf => ?_)
          refine S.val hf hs (v := .bool true) rfl rfl rfl (V.pure rfl) (fun a hf => ?_)
          refine S.val hf hs (v := .bool true) rfl rfl rfl (V.pure rfl) (fun a hf => ?_)
          refine S.val hf hs (v := .bool true) rfl rfl rfl (V.pure rfl) (fun a hf => ?_)
          refine S.val hf hs (v := .int .u8 (x1.toNat : Int)) rfl rfl rfl (V.pure rfl) (fun a hf => ?_)
          refine S.val hf hs (v := .bool (decide ((x1.toNat : Int) < 48))) rfl rfl rfl (V.pure rfl) (fun a hf => ?_)
          refine S.split hf hs (b := decide ((x1.toNat : Int) < 48)) rfl rfl rfl (V.pure rfl) (fun hc a hf => ?_) (fun hc a hf => ?_)
          · replace h := h.1 hc
            refine S.skip hf rfl rfl rfl (fun a hf => ?_)
            refine S.skip hf rfl rfl rfl (fun a hf => ?_)
            refine S.val hf hs (v := .bool true) rfl rfl rfl (V.pure rfl) (fun a hf => ?_)
            refine S.val hf hs (v := .bool true) rfl rfl rfl (V.pure rfl) (fun a hf => ?_)
            refine S.val hf hs (v := .bool true) rfl rfl rfl (V.pure rfl) (fun a hf => ?_)
            refine S.val hf hs (v := .int .u8 (x1.toNat : Int)) rfl rfl rfl (V.pure rfl) (fun a hf => ?_)
            refine S.callv hf rfl rfl rfl (call_fn (vs := [.string (ba [95, 43, 45, 35]), .int .u8 (x1.toNat : Int)]) rfl rfl rfl Tryz.call148) (C_strings_IndexByte [95, 43, 45, 35] (x1.toNat : Int) _ ) (fun a w hf hs' => ?_)
            replace hs := hs.call hs'; clear hs'
            refine S.val hf hs (v := .bool (decide ((byteAt [95, 43, 45, 35] (x1.toNat : Int)) < 0))) rfl rfl rfl (V.pure rfl) (fun a hf => ?_)
            refine S.val hf hs (v := .bool (decide ((byteAt [95, 43, 45, 35] (x1.toNat : Int)) < 0))) rfl rfl rfl (V.pure rfl) (fun a hf => ?_)
            refine R.nil ?_
            refine X.then_ ?_
            exact ⟨(decide ((byteAt [95, 43, 45, 35] (x1.toNat : Int)) < 0)), h, ((((hf.nil.cons (hf.get 39 _ rfl)).cons (hf.get 7 _ rfl)).cons (hf.get 6 _ rfl)).cons (hf.get 0 _ rfl)), hs⟩
          · replace h := h.2 hc
            refine S.val hf hs (v := .int .u8 (x1.toNat : Int)) rfl rfl rfl (V.pure rfl) (fun a hf => ?_)
            refine S.val hf hs (v := .bool (decide ((x1.toNat : Int) > 57))) rfl rfl rfl (V.pure rfl) (fun a hf => ?_)
            refine S.val hf hs (v := .bool (decide ((x1.toNat : Int) > 57))) rfl rfl rfl (V.pure rfl) (fun a hf => ?_)
            refine S.val hf hs (v := .bool (decide ((x1.toNat : Int) > 57))) rfl rfl rfl (V.pure rfl) (fun a hf => ?_)
            refine S.split hf hs (b := decide ((x1.toNat : Int) > 57)) rfl rfl rfl (V.pure rfl) (fun hc a hf => ?_) (fun hc a hf => ?_)
            · replace h := h.1 hc
              refine S.val hf hs (v := .int .u8 (x1.toNat : Int)) rfl rfl rfl (V.pure rfl) (fun a hf => ?_)
              refine S.callv hf rfl rfl rfl (call_fn (vs := [.string (ba [95, 43, 45, 35]), .int .u8 (x1.toNat : Int)]) rfl rfl rfl Tryz.call148) (C_strings_IndexByte [95, 43, 45, 35] (x1.toNat : Int) _ ) (fun a w hf hs' => ?_)
              replace hs := hs.call hs'; clear hs'
              refine S.val hf hs (v := .bool (decide ((byteAt [95, 43, 45, 35] (x1.toNat : Int)) < 0))) rfl rfl rfl (V.pure rfl) (fun a hf => ?_)
              refine S.val hf hs (v := .bool (decide ((byteAt [95, 43, 45, 35] (x1.toNat : Int)) < 0))) rfl rfl rfl (V.pure rfl) (fun a hf => ?_)
              refine R.nil ?_
              refine X.then_ ?_
              exact ⟨(decide ((byteAt [95, 43, 45, 35] (x1.toNat : Int)) < 0)), h, ((((hf.nil.cons (hf.get 39 _ rfl)).cons (hf.get 7 _ rfl)).cons (hf.get 6 _ rfl)).cons (hf.get 0 _ rfl)), hs⟩
            · replace h := h.2 hc
              refine S.skip hf rfl rfl rfl (fun a hf => ?_)
              refine S.skip hf rfl rfl rfl (fun a hf => ?_)
              refine S.skip hf rfl rfl rfl (fun a hf => ?_)
              refine S.val hf hs (v := .bool false) rfl rfl rfl (V.pure rfl) (fun a hf => ?_)
              refine R.nil ?_
              refine X.then_ ?_
              exact ⟨false, h, ((((hf.nil.cons (hf.get 39 _ rfl)).cons (hf.get 7 _ rfl)).cons (hf.get 6 _ rfl)).cons (hf.get 0 _ rfl)), hs⟩
        · replace h := h.2 hc
          refine S.val hf hs (v := .int .u8 (x1.toNat : Int)) rfl rfl rfl (V.pure rfl) (fun a hf => ?_)
          refine S.val hf hs (v := .bool (decide ((x1.toNat : Int) > 122))) rfl rfl rfl (V.pure rfl) (fun a hf => ?_)
          refine S.val hf hs (v := .bool (decide ((x1.toNat : Int) > 122))) rfl rfl rfl (V.pure rfl) (fun a hf => ?_)
          refine S.val hf hs (v := .bool (decide ((x1.toNat : Int) > 122))) rfl rfl rfl (V.pure rfl) (fun a hf => ?_)
          refine S.split hf hs (b := decide ((x1.toNat : Int) > 122)) rfl rfl rfl (V.pure rfl) (fun hc a hf => ?_) (fun hc a hf => ?_)
          · replace h := h.1 hc
            refine S.val hf hs (v := .int .u8 (x1.toNat : Int)) rfl rfl rfl (V.pure rfl) (fun a hf => ?_)
            refine S.val hf hs (v := .bool (decide ((x1.toNat : Int) < 48))) rfl rfl rfl (V.pure rfl) (fun a hf => ?_)
            refine S.split hf hs (b := decide ((x1.toNat : Int) < 48)) rfl rfl rfl (V.pure rfl) (fun hc a hf => ?_) (fun hc a hf => ?_)
            · replace h := h.1 hc
              refine S.skip hf rfl rfl rfl (fun a hf => ?_)
              refine S.skip hf rfl rfl rfl (fun a hf => ?_)
              refine S.val hf hs (v := .bool true) rfl rfl rfl (V.pure rfl) (fun a hf => ?_)
              refine S.val hf hs (v := .bool true) rfl rfl rfl (V.pure rfl) (fun a hf => ?_)
              refine S.val hf hs (v := .bool true) rfl rfl rfl (V.pure rfl) (fun a hf => ?_)
              refine S.val hf hs (v := .int .u8 (x1.toNat : Int)) rfl rfl rfl (V.pure rfl) (fun a hf => ?_)
              refine S.callv hf rfl rfl rfl (call_fn (vs := [.string (ba [95, 43, 45, 35]), .int .u8 (x1.toNat : Int)]) rfl rfl rfl Tryz.call148) (C_strings_IndexByte [95, 43, 45, 35] (x1.toNat : Int) _ ) (fun a w hf hs' => ?_)
              replace hs := hs.call hs'; clear hs'
              refine S.val hf hs (v := .bool (decide ((byteAt [95, 43, 45, 35] (x1.toNat : Int)) < 0))) rfl rfl rfl (V.pure rfl) (fun a hf => ?_)
              refine S.val hf hs (v := .bool (decide ((byteAt [95, 43, 45, 35] (x1.toNat : Int)) < 0))) rfl rfl rfl (V.pure rfl) (fun a hf => ?_)
              refine R.nil ?_
              refine X.then_ ?_
              exact ⟨(decide ((byteAt [95, 43, 45, 35] (x1.toNat : Int)) < 0)), h, ((((hf.nil.cons (hf.get 39 _ rfl)).cons (hf.get 7 _ rfl)).cons (hf.get 6 _ rfl)).cons (hf.get 0 _ rfl)), hs⟩
            · replace h := h.2 hc
              refine S.val hf hs (v := .int .u8 (x1.toNat : Int)) rfl rfl rfl (V.pure rfl) (fun a hf => ?_)
              refine S.val hf hs (v := .bool (decide ((x1.toNat : Int) > 57))) rfl rfl rfl (V.pure rfl) (fun a hf => ?_)
              refine S.val hf hs (v := .bool (decide ((x1.toNat : Int) > 57))) rfl rfl rfl (V.pure rfl) (fun a hf => ?_)
              refine S.val hf hs (v := .bool (decide ((x1.toNat : Int) > 57))) rfl rfl rfl (V.pure rfl) (fun a hf => ?_)
              refine S.split hf hs (b := decide ((x1.toNat : Int) > 57)) rfl rfl rfl (V.pure rfl) (fun hc a hf => ?_) (fun hc a hf => ?_)
              · replace h := h.1 hc
                refine S.val hf hs (v := .int .u8 (x1.toNat : Int)) rfl rfl rfl (V.pure rfl) (fun a hf => ?_)
                refine S.callv hf rfl rfl rfl (call_fn (vs := [.string (ba [95, 43, 45, 35]), .int .u8 (x1.toNat : Int)]) rfl rfl rfl Tryz.call148) (C_strings_IndexByte [95, 43, 45, 35] (x1.toNat : Int) _ ) (fun a w hf hs' => ?_)
                replace hs := hs.call hs'; clear hs'
                refine S.val hf hs (v := .bool (decide ((byteAt [95, 43, 45, 35] (x1.toNat : Int)) < 0))) rfl rfl rfl (V.pure rfl) (fun a hf => ?_)
                refine S.val hf hs (v := .bool (decide ((byteAt [95, 43, 45, 35] (x1.toNat : Int)) < 0))) rfl rfl rfl (V.pure rfl) (fun a hf => ?_)
                refine R.nil ?_
                refine X.then_ ?_
                exact ⟨(decide ((byteAt [95, 43, 45, 35] (x1.toNat : Int)) < 0)), h, ((((hf.nil.cons (hf.get 39 _ rfl)).cons (hf.get 7 _ rfl)).cons (hf.get 6 _ rfl)).cons (hf.get 0 _ rfl)), hs⟩
              · replace h := h.2 hc
                refine S.skip hf rfl rfl rfl (fun a hf => ?_)
                refine S.skip hf rfl rfl rfl (fun a hf => ?_)
                refine S.skip hf rfl rfl rfl (fun a hf => ?_)
                refine S.val hf hs (v := .bool false) rfl rfl rfl (V.pure rfl) (fun a hf => ?_)
                refine R.nil ?_
                refine X.then_ ?_
                exact ⟨false, h, ((((hf.nil.cons (hf.get 39 _ rfl)).cons (hf.get 7 _ rfl)).cons (hf.get 6 _ rfl)).cons (hf.get 0 _ rfl)), hs⟩
          · replace h := h.2 hc
            refine S.skip hf rfl rfl rfl (fun a hf => ?_)
            refine S.skip hf rfl rfl rfl (fun a hf => ?_)
            refine S.skip hf rfl rfl rfl (fun a hf => ?_)
            refine S.skip hf rfl rfl rfl (fun a hf => ?_)
            refine S.skip hf rfl rfl rfl (fun a hf => ?_)
            refine S.skip hf rfl rfl rfl (fun a hf => ?_)
            refine S.val hf hs (v := .bool false) rfl rfl rfl (V.pure rfl) (fun a hf => ?_)
            refine S.val hf hs (v := .bool false) rfl rfl rfl (V.pure rfl) (fun a hf => ?_)
            refine S.skip hf rfl rfl rfl (fun a hf => ?_)
            refine S.skip hf rfl rfl rfl (fun a hf => ?_)
            refine S.skip hf rfl rfl rfl (fun a hf => ?_)
            refine S.val hf hs (v := .bool false) rfl rfl rfl (V.pure rfl) (fun a hf => ?_)
            refine R.nil ?_
            refine X.then_ ?_
            exact ⟨false, h, ((((hf.nil.cons (hf.get 39 _ rfl)).cons (hf.get 7 _ rfl)).cons (hf.get 6 _ rfl)).cons (hf.get 0 _ rfl)), hs⟩
      · replace h := h.2 hc
        refine S.val hf hs (v := .int .u8 (x1.toNat : Int)) rfl rfl rfl (V.pure rfl) (fun a hf => ?_)
        refine S.val hf hs (v := .bool (decide ((x1.toNat : Int) > 90))) rfl rfl rfl (V.pure rfl) (fun a hf => ?_)
        refine S.val hf hs (v := .bool (decide ((x1.toNat : Int) > 90))) rfl rfl rfl (V.pure rfl) (fun a hf => ?_)
        refine S.split hf hs (b := decide ((x1.toNat : Int) > 90)) rfl rfl rfl (V.pure rfl) (fun hc a hf => ?_) (fun hc a hf => ?_)
        · replace h := h.1 hc
          refine S.val hf hs (v := .int .u8 (x1.toNat : Int)) rfl rfl rfl (V.pure rfl) (fun a hf => ?_)
          refine S.val hf hs (v := .bool (decide ((x1.toNat : Int) < 97))) rfl rfl rfl (V.pure rfl) (fun a hf => ?_)
          refine S.split hf hs (b := decide ((x1.toNat : Int) < 97)) rfl rfl rfl (V.pure rfl) (fun hc a hf => ?_) (fun hc a hf => ?_)
          · replace h := h.1 hc
            refine S.skip hf rfl rfl rfl (fun a hf => ?_)
            refine S.skip hf rfl rfl rfl (fun a hf => ?_)
            refine S.val hf hs (v := .bool true) rfl rfl rfl (V.pure rfl) (fun a hf => ?_)
            refine S.val hf hs (v := .bool true) rfl rfl rfl (V.pure rfl) (fun a hf => ?_)
            refine S.val hf hs (v := .bool true) rfl rfl rfl (V.pure rfl) (fun a hf => ?_)
            refine S.val hf hs (v := .int .u8 (x1.toNat : Int)) rfl rfl rfl (V.pure rfl) (fun a hf => ?_)
            refine S.val hf hs (v := .bool (decide ((x1.toNat : Int) < 48))) rfl rfl rfl (V.pure rfl) (fun a hf => ?_)
            refine S.split hf hs (b := decide ((x1.toNat : Int) < 48)) rfl rfl rfl (V.pure rfl) (fun hc a hf => ?_) (fun hc a hf => ?_)
            · replace h := h.1 hc
              refine S.skip hf rfl rfl rfl (fun a hf => ?_)
              refine S.skip hf rfl rfl rfl (fun a hf => ?_)
              refine S.val hf hs (v := .bool true) rfl rfl rfl (V.pure rfl) (fun a hf => ?_)
              refine S.val hf hs (v := .bool true) rfl rfl rfl (V.pure rfl) (fun a hf => ?_)
              refine S.val hf hs (v := .bool true) rfl rfl rfl (V.pure rfl) (fun a hf => ?_)
              refine S.val hf hs (v := .int .u8 (x1.toNat : Int)) rfl rfl rfl (V.pure rfl) (fun a hf => ?_)
              refine S.callv hf rfl rfl rfl (call_fn (vs := [.string (ba [95, 43, 45, 35]), .int .u8 (x1.toNat : Int)]) rfl rfl rfl Tryz.call148) (C_strings_IndexByte [95, 43, 45, 35] (x1.toNat : Int) _ ) (fun a w hf hs' => ?_)
              replace hs := hs.call hs'; clear hs'
              refine S.val hf hs (v := .bool (decide ((byteAt [95, 43, 45, 35] (x1.toNat : Int)) < 0))) rfl rfl rfl (V.pure rfl) (fun a hf => ?_)
              refine S.val hf hs (v := .bool (decide ((byteAt [95, 43, 45, 35] (x1.toNat : Int)) < 0))) rfl rfl rfl (V.pure rfl) (fun a hf => ?_)
              refine R.nil ?_
              refine X.then_ ?_
              exact ⟨(decide ((byteAt [95, 43, 45, 35] (x1.toNat : Int)) < 0)), h, ((((hf.nil.cons (hf.get 39 _ rfl)).cons (hf.get 7 _ rfl)).cons (hf.get 6 _ rfl)).cons (hf.get 0 _ rfl)), hs⟩
            · replace h := h.2 hc
              refine S.val hf hs (v := .int .u8 (x1.toNat : Int)) rfl rfl rfl (V.pure rfl) (fun a hf => ?_)
              refine S.val hf hs (v := .bool (decide ((x1.toNat : Int) > 57))) rfl rfl rfl (V.pure rfl) (fun a hf => ?_)
              refine S.val hf hs (v := .bool (decide ((x1.toNat : Int) > 57))) rfl rfl rfl (V.pure rfl) (fun a hf => ?_)
              refine S.val hf hs (v := .bool (decide ((x1.toNat : Int) > 57))) rfl rfl rfl (V.pure rfl) (fun a hf => ?_)
              refine S.split hf hs (b := decide ((x1.toNat : Int) > 57)) rfl rfl rfl (V.pure rfl) (fun hc a hf => ?_) (fun hc a hf => ?_)
              · replace h := h.1 hc
                refine S.val hf hs (v := .int .u8 (x1.toNat : Int)) rfl rfl rfl (V.pure rfl) (fun a hf => ?_)
                refine S.callv hf rfl rfl rfl (call_fn (vs := [.string (ba [95, 43, 45, 35]), .int .u8 (x1.toNat : Int)]) rfl rfl rfl Tryz.call148) (C_strings_IndexByte [95, 43, 45, 35] (x1.toNat : Int) _ ) (fun a w hf hs' => ?_)
                replace hs := hs.call hs'; clear hs'
                refine S.val hf hs (v := .bool (decide ((byteAt [95, 43, 45, 35] (x1.toNat : Int)) < 0))) rfl rfl rfl (V.pure rfl) (fun a hf => ?_)
                refine S.val hf hs (v := .bool (decide ((byteAt [95, 43, 45, 35] (x1.toNat : Int)) < 0))) rfl rfl rfl (V.pure rfl) (fun a hf => ?_)
                refine R.nil ?_
                refine X.then_ ?_
                exact ⟨(decide ((byteAt [95, 43, 45, 35] (x1.toNat : Int)) < 0)), h, ((((hf.nil.cons (hf.get 39 _ rfl)).cons (hf.get 7 _ rfl)).cons (hf.get 6 _ rfl)).cons (hf.get 0 _ rfl)), hs⟩
              · replace h := h.2 hc
                refine S.skip hf rfl rfl rfl (fun a hf => ?_)
                refine S.skip hf rfl rfl rfl (fun a hf => ?_)
                refine S.skip hf rfl rfl rfl (fun a hf => ?_)
                refine S.val hf hs (v := .bool false) rfl rfl rfl (V.pure rfl) (fun a hf => ?_)
                refine R.nil ?_
                refine X.then_ ?_
                exact ⟨false, h, ((((hf.nil.cons (hf.get 39 _ rfl)).cons (hf.get 7 _ rfl)).cons (hf.get 6 _ rfl)).cons (hf.get 0 _ rfl)), hs⟩
          · replace h := h.2 hc
            refine S.val hf hs (v := .int .u8 (x1.toNat : Int)) rfl rfl rfl (V.pure rfl) (fun a hf => ?_)
            refine S.val hf hs (v := .bool (decide ((x1.toNat : Int) > 122))) rfl rfl rfl (V.pure rfl) (fun a hf => ?_)
            refine S.val hf hs (v := .bool (decide ((x1.toNat : Int) > 122))) rfl rfl rfl (V.pure rfl) (fun a hf => ?_)
            refine S.val hf hs (v := .bool (decide ((x1.toNat : Int) > 122))) rfl rfl rfl (V.pure rfl) (fun a hf => ?_)
            refine S.split hf hs (b := decide ((x1.toNat : Int) > 122)) rfl rfl rfl (V.pure rfl) (fun hc a hf => ?_) (fun hc a hf => ?_)
            · replace h := h.1 hc
              refine S.val hf hs (v := .int .u8 (x1.toNat : Int)) rfl rfl rfl (V.pure rfl) (fun a hf => ?_)
              refine S.val hf hs (v := .bool (decide ((x1.toNat : Int) < 48))) rfl rfl rfl (V.pure rfl) (fun a hf => ?_)
              refine S.split hf hs (b := decide ((x1.toNat : Int) < 48)) rfl rfl rfl (V.pure rfl) (fun hc a hf => ?_) (fun hc a hf => ?_)
              · replace h := h.1 hc
                refine S.skip hf rfl rfl rfl (fun a hf => ?_)
                refine S.skip hf rfl rfl rfl (fun a hf => ?_)
                refine S.val hf hs (v := .bool true) rfl rfl rfl (V.pure rfl) (fun a hf => ?_)
                refine S.val hf hs (v := .bool true) rfl rfl rfl (V.pure rfl) (fun a hf => ?_)
                refine S.val hf hs (v := .bool true) rfl rfl rfl (V.pure rfl) (fun a hf => ?_)
                refine S.val hf hs (v := .int .u8 (x1.toNat : Int)) rfl rfl rfl (V.pure rfl) (fun a hf => ?_)
                refine S.callv hf rfl rfl rfl (call_fn (vs := [.string (ba [95, 43, 45, 35]), .int .u8 (x1.toNat : Int)]) rfl rfl rfl Tryz.call148) (C_strings_IndexByte [95, 43, 45, 35] (x1.toNat : Int) _ ) (fun a w hf hs' => ?_)
                replace hs := hs.call hs'; clear hs'
                refine S.val hf hs (v := .bool (decide ((byteAt [95, 43, 45, 35] (x1.toNat : Int)) < 0))) rfl rfl rfl (V.pure rfl) (fun a hf => ?_)
                refine S.val hf hs (v := .bool (decide ((byteAt [95, 43, 45, 35] (x1.toNat : Int)) < 0))) rfl rfl rfl (V.pure rfl) (fun a hf => ?_)
                refine R.nil ?_
                refine X.then_ ?_
                exact ⟨(decide ((byteAt [95, 43, 45, 35] (x1.toNat : Int)) < 0)), h, ((((hf.nil.cons (hf.get 39 _ rfl)).cons (hf.get 7 _ rfl)).cons (hf.get 6 _ rfl)).cons (hf.get 0 _ rfl)), hs⟩
              · replace h := h.2 hc
                refine S.val hf hs (v := .int .u8 (x1.toNat : Int)) rfl rfl rfl (V.pure rfl) (fun a hf => ?_)
                refine S.val hf hs (v := .bool (decide ((x1.toNat : Int) > 57))) rfl rfl rfl (V.pure rfl) (fun a hf => ?_)
                refine S.val hf hs (v := .bool (decide ((x1.toNat : Int) > 57))) rfl rfl rfl (V.pure rfl) (fun a hf => ?_)
                refine S.val hf hs (v := .bool (decide ((x1.toNat : Int) > 57))) rfl rfl rfl (V.pure rfl) (fun a hf => ?_)
                refine S.split hf hs (b := decide ((x1.toNat : Int) > 57)) rfl rfl rfl (V.pure rfl) (fun hc a hf => ?_) (fun hc a hf => ?_)
                · replace h := h.1 hc
                  refine S.val hf hs (v := .int .u8 (x1.toNat : Int)) rfl rfl rfl (V.pure rfl) (fun a hf => ?_)
                  refine S.callv hf rfl rfl rfl (call_fn (vs := [.string (ba [95, 43, 45, 35]), .int .u8 (x1.toNat : Int)]) rfl rfl rfl Tryz.call148) (C_strings_IndexByte [95, 43, 45, 35] (x1.toNat : Int) _ ) (fun a w hf hs' => ?_)
                  replace hs := hs.call hs'; clear hs'
                  refine S.val hf hs (v := .bool (decide ((byteAt [95, 43, 45, 35] (x1.toNat : Int)) < 0))) rfl rfl rfl (V.pure rfl) (fun a hf => ?_)
                  refine S.val hf hs (v := .bool (decide ((byteAt [95, 43, 45, 35] (x1.toNat : Int)) < 0))) rfl rfl rfl (V.pure rfl) (fun a hf => ?_)
                  refine R.nil ?_
                  refine X.then_ ?_
                  exact ⟨(decide ((byteAt [95, 43, 45, 35] (x1.toNat : Int)) < 0)), h, ((((hf.nil.cons (hf.get 39 _ rfl)).cons (hf.get 7 _ rfl)).cons (hf.get 6 _ rfl)).cons (hf.get 0 _ rfl)), hs⟩
                · replace h := h.2 hc
                  refine S.skip hf rfl rfl rfl (fun a hf => ?_)
                  refine S.skip hf rfl rfl rfl (fun a hf => ?_)
                  refine S.skip hf rfl rfl rfl (fun a hf => ?_)
                  refine S.val hf hs (v := .bool false) rfl rfl rfl (V.pure rfl) (fun a hf => ?_)
                  refine R.nil ?_
                  refine X.then_ ?_
                  exact ⟨false, h, ((((hf.nil.cons (hf.get 39 _ rfl)).cons (hf.get 7 _ rfl)).cons (hf.get 6 _ rfl)).cons (hf.get 0 _ rfl)), hs⟩
            · replace h := h.2 hc
              refine S.skip hf rfl rfl rfl (fun a hf => ?_)
              refine S.skip hf rfl rfl rfl (fun a hf => ?_)
              refine S.skip hf rfl rfl rfl (fun a hf => ?_)
              refine S.skip hf rfl rfl rfl (fun a hf => ?_)
              refine S.skip hf rfl rfl rfl (fun a hf => ?_)
              refine S.skip hf rfl rfl rfl (fun a hf => ?_)
              refine S.val hf hs (v := .bool false) rfl rfl rfl (V.pure rfl) (fun a hf => ?_)
              refine S.val hf hs (v := .bool false) rfl rfl rfl (V.pure rfl) (fun a hf => ?_)
              refine S.skip hf rfl rfl rfl (fun a hf => ?_)
              refine S.skip hf rfl rfl rfl (fun a hf => ?_)
              refine S.skip hf rfl rfl rfl (fun a hf => ?_)
              refine S.val hf hs (v := .bool false) rfl rfl rfl (V.pure rfl) (fun a hf => ?_)
              refine R.nil ?_
              refine X.then_ ?_
              exact ⟨false, h, ((((hf.nil.cons (hf.get 39 _ rfl)).cons (hf.get 7 _ rfl)).cons (hf.get 6 _ rfl)).cons (hf.get 0 _ rfl)), hs⟩
        · replace h := h.2 hc
          refine S.skip hf rfl rfl rfl (fun a hf => ?_)
          refine S.skip hf rfl rfl rfl (fun a hf => ?_)
          refine S.skip hf rfl rfl rfl (fun a hf => ?_)
          refine S.skip hf rfl rfl rfl (fun a hf => ?_)
          refine S.skip hf rfl rfl rfl (fun a hf => ?_)
          refine S.skip hf rfl rfl rfl (fun a hf => ?_)
          refine S.val hf hs (v := .bool false) rfl rfl rfl (V.pure rfl) (fun a hf => ?_)
          refine S.val hf hs (v := .bool false) rfl rfl rfl (V.pure rfl) (fun a hf => ?_)
          refine S.skip hf rfl rfl rfl (fun a hf => ?_)
          refine S.skip hf rfl rfl rfl (fun a hf => ?_)
          refine S.skip hf rfl rfl rfl (fun a hf => ?_)
          refine S.skip hf rfl rfl rfl (fun a hf => ?_)
          refine S.skip hf rfl rfl rfl (fun a hf => ?_)
          refine S.skip hf rfl rfl rfl (fun a hf => ?_)
          refine S.val hf hs (v := .bool false) rfl rfl rfl (V.pure rfl) (fun a hf => ?_)
          refine S.val hf hs (v := .bool false) rfl rfl rfl (V.pure rfl) (fun a hf => ?_)
          refine S.skip hf rfl rfl rfl (fun a hf => ?_)
          refine S.skip hf rfl rfl rfl (fun a hf => ?_)
          refine S.skip hf rfl rfl rfl (fun a hf => ?_)
          refine S.val hf hs (v := .bool false) rfl rfl rfl (V.pure rfl) (fun a hf => ?_)
          refine R.nil ?_
          refine X.then_ ?_
          exact ⟨false, h, ((((hf.nil.cons (hf.get 39 _ rfl)).cons (hf.get 7 _ rfl)).cons (hf.get 6 _ rfl)).cons (hf.get 0 _ rfl)), hs⟩
  · replace h := h.2 hc
    refine wp_exit ?_
    refine X.then_exit ?_
    refine X.then_exit ?_
    refine X.blk_exit ?_
    refine X.then_ ?_
    refine wp_seq ?_
    refine R.list ?_
    refine S.val hf hs (v := .string (ba s_)) rfl rfl rfl (V.pure rfl) (fun a hf => ?_)
    refine S.val hf hs (v := .int .i64 (s_.length : Int)) rfl rfl rfl (V.lenStr rfl rfl Tryz.runUnderlying9) (fun a hf => ?_)
    refine S.val hf hs (v := .bool (decide ((s_.length : Int) ≥ 1))) rfl rfl rfl (V.pure rfl) (fun a hf => ?_)
    refine S.split hf hs (b := decide ((s_.length : Int) ≥ 1)) rfl rfl rfl (V.pure rfl) (fun hc a hf => ?_) (fun hc a hf => ?_)
    · replace h := h.1 hc
      refine S.val hf hs (v := .string (ba s_)) rfl rfl rfl (V.pure rfl) (fun a hf => ?_)
      refine S.val hf hs (v := .int .i64 (s_.length : Int)) rfl rfl rfl (V.lenStr rfl rfl Tryz.runUnderlying9) (fun a hf => ?_)
      refine S.val hf hs (v := .bool (decide ((s_.length : Int) ≤ 40))) rfl rfl rfl (V.pure rfl) (fun a hf => ?_)
      refine S.val hf hs (v := .bool (decide ((s_.length : Int) ≤ 40))) rfl rfl rfl (V.pure rfl) (fun a hf => ?_)
      refine S.val hf hs (v := .bool (decide ((s_.length : Int) ≤ 40))) rfl rfl rfl (V.pure rfl) (fun a hf => ?_)
      refine R.nil ?_
      refine X.then_ ?_
      refine wp_ret ?_
      exact L.ret hf (run_results1 Tryz.results87 (ResIs.tmp hf rfl)) ⟨(decide ((s_.length : Int) ≤ 40)), rfl, h, hs.nil⟩
    · replace h := h.2 hc
      refine S.skip hf rfl rfl rfl (fun a hf => ?_)
      refine S.skip hf rfl rfl rfl (fun a hf => ?_)
      refine S.skip hf rfl rfl rfl (fun a hf => ?_)
      refine S.val hf hs (v := .bool false) rfl rfl rfl (V.pure rfl) (fun a hf => ?_)
      refine S.val hf hs (v := .bool false) rfl rfl rfl (V.pure rfl) (fun a hf => ?_)
      refine R.nil ?_
      refine X.then_ ?_
      refine wp_ret ?_
      exact L.ret hf (run_results1 Tryz.results87 (ResIs.tmp hf rfl)) ⟨false, rfl, h, hs.nil⟩

set_option linter.unusedVariables false
def M_ref4_isWord_k2 (Q : Bool → Prop) (n2 : Int) (again1 : Int → Prop) (c1 : Bool) : Prop :=
  cnd c1 (Q false) (again1 (w64 (n2 + 1)))
def M_ref4_isWord_L1 (s_ : Str) (Q : Bool → Prop) (again1 : Int → Prop) (n2 : Int) : Prop :=
  cnd (decide (n2 < (s_.length : Int))) (idx s_ n2 fun x1 => cnd (decide ((x1.toNat : Int) < 97)) (cnd (decide ((x1.toNat : Int) < 65)) (cnd (decide ((x1.toNat : Int) < 48)) (M_ref4_isWord_k2 Q n2 again1 (decide ((byteAt [95, 43, 45, 35] (x1.toNat : Int)) < 0))) (cnd (decide ((x1.toNat : Int) > 57)) (M_ref4_isWord_k2 Q n2 again1 (decide ((byteAt [95, 43, 45, 35] (x1.toNat : Int)) < 0))) (M_ref4_isWord_k2 Q n2 again1 false))) (cnd (decide ((x1.toNat : Int) > 90)) (cnd (decide ((x1.toNat : Int) < 48)) (M_ref4_isWord_k2 Q n2 again1 (decide ((byteAt [95, 43, 45, 35] (x1.toNat : Int)) < 0))) (cnd (decide ((x1.toNat : Int) > 57)) (M_ref4_isWord_k2 Q n2 again1 (decide ((byteAt [95, 43, 45, 35] (x1.toNat : Int)) < 0))) (M_ref4_isWord_k2 Q n2 again1 false))) (M_ref4_isWord_k2 Q n2 again1 false))) (cnd (decide ((x1.toNat : Int) > 122)) (cnd (decide ((x1.toNat : Int) < 65)) (cnd (decide ((x1.toNat : Int) < 48)) (M_ref4_isWord_k2 Q n2 again1 (decide ((byteAt [95, 43, 45, 35] (x1.toNat : Int)) < 0))) (cnd (decide ((x1.toNat : Int) > 57)) (M_ref4_isWord_k2 Q n2 again1 (decide ((byteAt [95, 43, 45, 35] (x1.toNat : Int)) < 0))) (M_ref4_isWord_k2 Q n2 again1 false))) (cnd (decide ((x1.toNat : Int) > 90)) (cnd (decide ((x1.toNat : Int) < 48)) (M_ref4_isWord_k2 Q n2 again1 (decide ((byteAt [95, 43, 45, 35] (x1.toNat : Int)) < 0))) (cnd (decide ((x1.toNat : Int) > 57)) (M_ref4_isWord_k2 Q n2 again1 (decide ((byteAt [95, 43, 45, 35] (x1.toNat : Int)) < 0))) (M_ref4_isWord_k2 Q n2 again1 false))) (M_ref4_isWord_k2 Q n2 again1 false))) (M_ref4_isWord_k2 Q n2 again1 false))) (Q (within (s_.length : Int) 1 40))
def M_ref4_isWord (s_ : Str) (Q : Bool → Prop) : Prop :=
  lp (fun again (s : Int) => M_ref4_isWord_L1 s_ Q (fun n2 => again n2) s) 0
set_option maxHeartbeats 1000000 in
theorem R_ref4_isWord (s_ : Str) (w0 : World)  (Q : Bool → Prop) (h : M_ref4_isWord s_ Q) :
    Ret Tryz.prog 152 #[.string (ba s_)] w0 fun v w' => ∃ (r0 : Bool), v = .bool r0 ∧ Q r0 ∧ Sat w0 none_ [] w' := by
  refine fn_enter Tryz.func152 rfl Tryz.ntmps152 rfl (fs := [(0, .string (ba s_))]) rfl (fun a hf => ?_)
  have hs := Sat.start w0 none_
  unfold M_ref4_isWord at h
  refine wp_seq ?_
  refine R.list ?_
  refine S.val hf hs (v := .bool false) rfl rfl rfl (V.pure rfl) (fun a hf => ?_)
  refine R.nil ?_
  refine X.then_ ?_
  refine wp_seq ?_
  refine wp_seq ?_
  refine R.list ?_
  refine S.val hf hs (v := .string (ba s_)) rfl rfl rfl (V.pure rfl) (fun a hf => ?_)
  refine S.val hf hs (v := .int .i64 (s_.length : Int)) rfl rfl rfl (V.lenStr rfl rfl Tryz.runUnderlying9) (fun a hf => ?_)
  refine S.val hf hs (v := .int .i64 0) rfl rfl rfl (V.pure rfl) (fun a hf => ?_)
  refine R.nil ?_
  refine X.then_ ?_
  refine wp_block ?_
  obtain ⟨kk, h⟩ := h
  refine C.loop (fun kk a w => ∃ (n2 : Int), iterF (fun again (s : Int) => M_ref4_isWord_L1 s_ Q (fun n2 => again n2) s) kk n2 ∧ FrOk 44 [(0, .string (ba s_)), (6, .int .i64 (s_.length : Int)), (7, .int .i64 n2)] a ∧ Sat w0 none_ [] w) kk ⟨0, h, (((hf.nil.cons (hf.get 7 _ rfl)).cons (hf.get 6 _ rfl)).cons (hf.get 0 _ rfl)), hs⟩ (fun a w ⟨_, h, _, _⟩ => h) ?_
  clear h hf hs
  rintro kk a w ⟨n2, h, hf, hs⟩
  obtain ⟨again1, hagain1⟩ : ∃ X : Int → Prop, X = (fun n2 => iterF (fun again (s : Int) => M_ref4_isWord_L1 s_ Q (fun n2 => again n2) s) kk n2) := ⟨_, rfl⟩
  replace h : M_ref4_isWord_L1 s_ Q again1 n2 := by rw [hagain1]; exact h
  unfold M_ref4_isWord_L1 at h
  refine wp_seq ?_
  refine R.list ?_
  refine S.val hf hs (v := .bool (decide (n2 < (s_.length : Int)))) rfl rfl rfl (V.pure rfl) (fun a hf => ?_)
  refine R.nil ?_
  refine X.then_ ?_
  refine wp_seq ?_
  refine C.cond hf (b := decide (n2 < (s_.length : Int))) rfl (fun hc => ?_) (fun hc => ?_)
  · replace h := h.1 hc
    refine wp_skip ?_
    refine X.then_ ?_
    refine wp_seq ?_
    refine wp_block ?_
    refine wp_seq ?_
    refine R.list ?_
    refine S.val hf hs (v := .int .i64 n2) rfl rfl rfl (V.pure rfl) (fun a hf => ?_)
    refine S.val hf hs (v := .int .i64 n2) rfl rfl rfl (V.pure rfl) (fun a hf => ?_)
    refine R.nil ?_
    refine X.then_ ?_
    refine wp_seq ?_
    refine R.list ?_
    refine S.val hf hs (v := .string (ba s_)) rfl rfl rfl (V.pure rfl) (fun a hf => ?_)
    refine S.val hf hs (v := .int .i64 n2) rfl rfl rfl (V.pure rfl) (fun a hf => ?_)
    obtain ⟨h0x1, x1, hx1, h⟩ := h
    refine S.val hf hs (v := .int .u8 (x1.toNat : Int)) rfl rfl rfl (V.indexStr rfl rfl rfl Tryz.runUnderlying9 h0x1 hx1) (fun a hf => ?_)
    refine S.val hf hs (v := .int .u8 (x1.toNat : Int)) rfl rfl rfl (V.pure rfl) (fun a hf => ?_)
    refine R.nil ?_
    refine X.then_ ?_
    refine wp_seq ?_
    refine C.cut (J := fun a w => ∃ (c1 : Bool), M_ref4_isWord_k2 Q n2 again1 c1 ∧ FrOk 44 [(0, .string (ba s_)), (6, .int .i64 (s_.length : Int)), (7, .int .i64 n2), (39, .bool c1)] a ∧ Sat w0 none_ [] w) ?_ ?_
    · rintro a w ⟨c1, h, hf, hs⟩
      unfold M_ref4_isWord_k2 at h
      refine C.cond hf (b := c1) rfl (fun hc => ?_) (fun hc => ?_)
      · replace h := h.1 hc
        refine wp_seq ?_
        refine R.list ?_
        refine S.val hf hs (v := .bool false) rfl rfl rfl (V.pure rfl) (fun a hf => ?_)
        refine R.nil ?_
        refine X.then_ ?_
        refine wp_ret ?_
        refine X.blk_ret ?_
        refine X.then_ret ?_
        refine X.then_ret ?_
        refine X.blk_ret ?_
        refine X.then_ret ?_
        exact L.ret hf (run_results1 Tryz.results152 (ResIs.tmp hf rfl)) ⟨false, rfl, h, hs.nil⟩
      · replace h := h.2 hc
        refine wp_skip ?_
        refine X.blk ?_
        refine X.then_ ?_
        refine R.list ?_
        refine S.val hf hs (v := .int .i64 (w64 (n2 + 1))) rfl rfl rfl (V.pure rfl) (fun a hf => ?_)
        refine S.val hf hs (v := .int .i64 (w64 (n2 + 1))) rfl rfl rfl (V.pure rfl) (fun a hf => ?_)
        refine R.nil ?_
        refine X.then_ ?_
        exact ⟨(w64 (n2 + 1)), (by rw [hagain1] at h; exact h), (((hf.nil.cons (hf.get 7 _ rfl)).cons (hf.get 6 _ rfl)).cons (hf.get 0 _ rfl)), hs⟩
    · skip
      refine R.list ?_
      refine S.val hf hs (v := .int .u8 (x1.toNat : Int)) rfl rfl rfl (V.pure rfl) (fun a hf => ?_)
      refine S.val hf hs (v := .bool (decide ((x1.toNat : Int) < 97))) rfl rfl rfl (V.pure rfl) (fun a hf => ?_)
      refine S.split hf hs (b := decide ((x1.toNat : Int) < 97)) rfl rfl rfl (V.pure rfl) (fun hc a hf => ?_) (fun hc a hf => ?_)
      · replace h := h.1 hc
        refine S.skip hf rfl rfl rfl (fun a hf => ?_)
        refine S.skip hf rfl rfl rfl (fun a hf => ?_)
        refine S.val hf hs (v := .bool true) rfl rfl rfl (V.pure rfl) (fun a hf => ?_)
        refine S.val hf hs (v := .bool true) rfl rfl rfl (V.pure rfl) (fun a hf => ?_)
        refine S.val hf hs (v := .int .u8 (x1.toNat : Int)) rfl rfl rfl (V.pure rfl) (fun a hf => ?_)
        refine S.val hf hs (v := .bool (decide ((x1.toNat : Int) < 65))) rfl rfl rfl (V.pure rfl) (fun a hf => ?_)
        refine S.split hf hs (b := decide ((x1.toNat : Int) < 65)) rfl rfl rfl (V.pure rfl) (fun hc a hf => ?_) (fun hc a hf => ?_)
        · replace h := h.1 hc
          refine S.skip hf rfl rfl rfl (fun a hf => ?_)
          refine S.skip hf rfl rfl rfl (fun a hf => ?_)
          refine S.val hf hs (v := .bool true) rfl rfl rfl (V.pure rfl) (fun a hf => ?_)
          refine S.val hf hs (v := .bool true) rfl rfl rfl (V.pure rfl) (fun a hf => ?_)
          refine S.val hf hs (v := .bool true) rfl rfl rfl (V.pure rfl) (fun a hf => ?_)
          refine S.val hf hs (v := .int .u8 (x1.toNat : Int)) rfl rfl rfl (V.pure rfl) (fun a hf => ?_)
          refine S.val hf hs (v := .bool (decide ((x1.toNat : Int) < 48))) rfl rfl rfl (V.pure rfl) (fun a hf => ?_)
          refine S.split hf hs (b := decide ((x1.toNat : Int) < 48)) rfl rfl rfl (V.pure rfl) (fun hc a hf => ?_) (fun hc a hf => ?_)
          · replace h := h.1 hc
            refine S.skip hf rfl rfl rfl (fun a hf => ?_)
            refine S.skip hf rfl rfl rfl (fun a hf => ?_)
            refine S.val hf hs (v := .bool true) rfl rfl rfl (V.pure rfl) (fun a hf => ?_)
            refine S.val hf hs (v := .bool true) rfl rfl rfl (V.pure rfl) (fun a hf => ?_)
            refine S.val hf hs (v := .bool true) rfl rfl rfl (V.pure rfl) (fun a hf => ?_)
            refine S.val hf hs (v := .int .u8 (x1.toNat : Int)) rfl rfl rfl (V.pure rfl) (fun a hf => ?_)
            refine S.callv hf rfl rfl rfl (call_fn (vs := [.string (ba [95, 43, 45, 35]), .int .u8 (x1.toNat : Int)]) rfl rfl rfl Tryz.call148) (C_strings_IndexByte [95, 43, 45, 35] (x1.toNat : Int) _ ) (fun a w hf hs' => ?_)
            replace hs := hs.call hs'; clear hs'
            refine S.val hf hs (v := .bool (decide ((byteAt [95, 43, 45, 35] (x1.toNat : Int)) < 0))) rfl rfl rfl (V.pure rfl) (fun a hf => ?_)
            refine S.val hf hs (v := .bool (decide ((byteAt [95, 43, 45, 35] (x1.toNat : Int)) < 0))) rfl rfl rfl (V.pure rfl) (fun a hf => ?_)
            refine R.nil ?_
            refine X.then_ ?_
            exact ⟨(decide ((byteAt [95, 43, 45, 35] (x1.toNat : Int)) < 0)), h, ((((hf.nil.cons (hf.get 39 _ rfl)).cons (hf.get 7 _ rfl)).cons (hf.get 6 _ rfl)).cons (hf.get 0 _ rfl)), hs⟩
          · replace h := h.2 hc
            refine S.val hf hs (v := .int .u8 (x1.toNat : Int)) rfl rfl rfl (V.pure rfl) (fun a hf => ?_)
            refine S.val hf hs (v := .bool (decide ((x1.toNat : Int) > 57))) rfl rfl rfl (V.pure rfl) (fun a hf => ?_)
            refine S.val hf hs (v := .bool (decide ((x1.toNat : Int) > 57))) rfl rfl rfl (V.pure rfl) (fun a hf => ?_)
            refine S.val hf hs (v := .bool (decide ((x1.toNat : Int) > 57))) rfl rfl rfl (V.pure rfl) (fun a hf => ?_)
            refine S.split hf hs (b := decide ((x1.toNat : Int) > 57)) rfl rfl rfl (V.pure rfl) (fun hc a hf => ?_) (fun hc a hf => ?_)
            · replace h := h.1 hc
              refine S.val hf hs (v := .int .u8 (x1.toNat : Int)) rfl rfl rfl (V.pure rfl) (fun a hf => ?_)
              refine S.callv hf rfl rfl rfl (call_fn (vs := [.string (ba [95, 43, 45, 35]), .int .u8 (x1.toNat : Int)]) rfl rfl rfl Tryz.call148) (C_strings_IndexByte [95, 43, 45, 35] (x1.toNat : Int) _ ) (fun a w hf hs' => ?_)
              replace hs := hs.call hs'; clear hs'
              refine S.val hf hs (v := .bool (decide ((byteAt [95, 43, 45, 35] (x1.toNat : Int)) < 0))) rfl rfl rfl (V.pure rfl) (fun a hf => ?_)
              refine S.val hf hs (v := .bool (decide ((byteAt [95, 43, 45, 35] (x1.toNat : Int)) < 0))) rfl rfl rfl (V.pure rfl) (fun a hf => ?_)
              refine R.nil ?_
              refine X.then_ ?_
              exact ⟨(decide ((byteAt [95, 43, 45, 35] (x1.toNat : Int)) < 0)), h, ((((hf.nil.cons (hf.get 39 _ rfl)).cons (hf.get 7 _ rfl)).cons (hf.get 6 _ rfl)).cons (hf.get 0 _ rfl)), hs⟩
            · replace h := h.2 hc
              refine S.skip hf rfl rfl rfl (fun a hf => ?_)
              refine S.skip hf rfl rfl rfl (fun a hf => ?_)
              refine S.skip hf rfl rfl rfl (fun a hf => ?_)
              refine S.val hf hs (v := .bool false) rfl rfl rfl (V.pure rfl) (fun a hf => ?_)
              refine R.nil ?_
              refine X.then_ ?_
              exact ⟨false, h, ((((hf.nil.cons (hf.get 39 _ rfl)).cons (hf.get 7 _ rfl)).cons (hf.get 6 _ rfl)).cons (hf.get 0 _ rfl)), hs⟩
        · replace h := h.2 hc
          refine S.val hf hs (v := .int .u8 (x1.toNat : Int)) rfl rfl rfl (V.pure rfl) (fun a hf => ?_)
          refine S.val hf hs (v := .bool (decide ((x1.toNat : Int) > 90))) rfl rfl rfl (V.pure rfl) (fun a hf => ?_)
          refine S.val hf hs (v := .bool (decide ((x1.toNat : Int) > 90))) rfl rfl rfl (V.pure rfl) (fun a hf => ?_)
          refine S.val hf hs (v := .bool (decide ((x1.toNat : Int) > 90))) rfl rfl rfl (V.pure rfl) (fun a hf => ?_)
          refine S.split hf hs (b := decide ((x1.toNat : Int) > 90)) rfl rfl rfl (V.pure rfl) (fun hc a hf => ?_) (fun hc a hf => ?_)
          · replace h := h.1 hc
            refine S.val hf hs (v := .int .u8 (x1.toNat : Int)) rfl rfl rfl (V.pure rfl) (fun a hf => ?_)
            refine S.val hf hs (v := .bool (decide ((x1.toNat : Int) < 48))) rfl rfl rfl (V.pure rfl) (fun a hf => ?_)
            refine S.split hf hs (b := decide ((x1.toNat : Int) < 48)) rfl rfl rfl (V.pure rfl) (fun hc a hf => ?_) (fun hc a hf => ?_)
            · replace h := h.1 hc
              refine S.skip hf rfl rfl rfl (fun a hf => ?_)
              refine S.skip hf rfl rfl rfl (fun a hf => ?_)
              refine S.val hf hs (v := .bool true) rfl rfl rfl (V.pure rfl) (fun a hf => ?_)
              refine S.val hf hs (v := .bool true) rfl rfl rfl (V.pure rfl) (fun a hf => ?_)
              refine S.val hf hs (v := .bool true) rfl rfl rfl (V.pure rfl) (fun a hf => ?_)
              refine S.val hf hs (v := .int .u8 (x1.toNat : Int)) rfl rfl rfl (V.pure rfl) (fun a hf => ?_)
              refine S.callv hf rfl rfl rfl (call_fn (vs := [.string (ba [95, 43, 45, 35]), .int .u8 (x1.toNat : Int)]) rfl rfl rfl Tryz.call148) (C_strings_IndexByte [95, 43, 45, 35] (x1.toNat : Int) _ ) (fun a w hf hs' => ?_)
              replace hs := hs.call hs'; clear hs'
              refine S.val hf hs (v := .bool (decide ((byteAt [95, 43, 45, 35] (x1.toNat : Int)) < 0))) rfl rfl rfl (V.pure rfl) (fun a hf => ?_)
              refine S.val hf hs (v := .bool (decide ((byteAt [95, 43, 45, 35] (x1.toNat : Int)) < 0))) rfl rfl rfl (V.pure rfl) (fun a hf => ?_)
              refine R.nil ?_
              refine X.then_ ?_
              exact ⟨(decide ((byteAt [95, 43, 45, 35] (x1.toNat : Int)) < 0)), h, ((((hf.nil.cons (hf.get 39 _ rfl)).cons (hf.get 7 _ rfl)).cons (hf.get 6 _ rfl)).cons (hf.get 0 _ rfl)), hs⟩
            · replace h := h.2 hc
              refine S.val hf hs (v := .int .u8 (x1.toNat : Int)) rfl rfl rfl (V.pure rfl) (fun a hf => ?_)
              refine S.val hf hs (v := .bool (decide ((x1.toNat : Int) > 57))) rfl rfl rfl (V.pure rfl) (fun a hf => ?_)
              refine S.val hf hs (v := .bool (decide ((x1.toNat : Int) > 57))) rfl rfl rfl (V.pure rfl) (fun a hf => ?_)
              refine S.val hf hs (v := .bool (decide ((x1.toNat : Int) > 57))) rfl rfl rfl (V.pure rfl) (fun a hf => ?_)
              refine S.split hf hs (b := decide ((x1.toNat : Int) > 57)) rfl rfl rfl (V.pure rfl) (fun hc a hf => ?_) (fun hc a hf => ?_)
              · replace h := h.1 hc
                refine S.val hf hs (v := .int .u8 (x1.toNat : Int)) rfl rfl rfl (V.pure rfl) (fun a hf => ?_)
                refine S.callv hf rfl rfl rfl (call_fn (vs := [.string (ba [95, 43, 45, 35]), .int .u8 (x1.toNat : Int)]) rfl rfl rfl Tryz.call148) (C_strings_IndexByte [95, 43, 45, 35] (x1.toNat : Int) _ ) (fun a w hf hs' => ?_)
                replace hs := hs.call hs'; clear hs'
                refine S.val hf hs (v := .bool (decide ((byteAt [95, 43, 45, 35] (x1.toNat : Int)) < 0))) rfl rfl rfl (V.pure rfl) (fun a hf => ?_)
                refine S.val hf hs (v := .bool (decide ((byteAt [95, 43, 45, 35] (x1.toNat : Int)) < 0))) rfl rfl rfl (V.pure rfl) (fun a hf => ?_)
                refine R.nil ?_
                refine X.then_ ?_
                exact ⟨(decide ((byteAt [95, 43, 45, 35] (x1.toNat : Int)) < 0)), h, ((((hf.nil.cons (hf.get 39 _ rfl)).cons (hf.get 7 _ rfl)).cons (hf.get 6 _ rfl)).cons (hf.get 0 _ rfl)), hs⟩
              · replace h := h.2 hc
                refine S.skip hf rfl rfl rfl (fun a hf => ?_)
                refine S.skip hf rfl rfl rfl (fun a hf => ?_)
                refine S.skip hf rfl rfl rfl (fun a hf => ?_)
                refine S.val hf hs (v := .bool false) rfl rfl rfl (V.pure rfl) (fun a hf => ?_)
                refine R.nil ?_
                refine X.then_ ?_
                exact ⟨false, h, ((((hf.nil.cons (hf.get 39 _ rfl)).cons (hf.get 7 _ rfl)).cons (hf.get 6 _ rfl)).cons (hf.get 0 _ rfl)), hs⟩
          · replace h := h.2 hc
            refine S.skip hf rfl rfl rfl (fun a hf => ?_)
            refine S.skip hf rfl rfl rfl (fun a hf => ?_)
            refine S.skip hf rfl rfl rfl (fun a hf => ?_)
            refine S.skip hf rfl rfl rfl (fun a hf => ?_)
            refine S.skip hf rfl rfl rfl (fun a hf => ?_)
            refine S.skip hf rfl rfl rfl (fun a hf => ?_)
            refine S.val hf hs (v := .bool false) rfl rfl rfl (V.pure rfl) (fun a hf => ?_)
            refine S.val hf hs (v := .bool false) rfl rfl rfl (V.pure rfl) (fun a hf => ?_)
            refine S.skip hf rfl rfl rfl (fun a hf => ?_)
            refine S.skip hf rfl rfl rfl (fun a hf => ?_)
            refine S.skip hf rfl rfl rfl (fun a hf => ?_)
            refine S.val hf hs (v := .bool false) rfl rfl rfl (V.pure rfl) (fun a hf => ?_)
            refine R.nil ?_
            refine X.then_ ?_
            exact ⟨false, h, ((((hf.nil.cons (hf.get 39 _ rfl)).cons (hf.get 7 _ rfl)).cons (hf.get 6 _ rfl)).cons (hf.get 0 _ rfl)), hs⟩
      · replace h := h.2 hc
        refine S.val hf hs (v := .int .u8 (x1.toNat : Int)) rfl rfl rfl (V.pure rfl) (fun a hf => ?_)
        refine S.val hf hs (v := .bool (decide ((x1.toNat : Int) > 122))) rfl rfl rfl (V.pure rfl) (fun a hf => ?_)
        refine S.val hf hs (v := .bool (decide ((x1.toNat : Int) > 122))) rfl rfl rfl (V.pure rfl) (fun a hf => ?_)
        refine S.split hf hs (b := decide ((x1.toNat : Int) > 122)) rfl rfl rfl (V.pure rfl) (fun hc a hf => ?_) (fun hc a hf => ?_)
        · replace h := h.1 hc
          refine S.val hf hs (v := .int .u8 (x1.toNat : Int)) rfl rfl rfl (V.pure rfl) (fun a hf => ?_)
          refine S.val hf hs (v := .bool (decide ((x1.toNat : Int) < 65))) rfl rfl rfl (V.pure rfl) (fun a hf => ?_)
          refine S.split hf hs (b := decide ((x1.toNat : Int) < 65)) rfl rfl rfl (V.pure rfl) (fun hc a hf => ?_) (fun hc a hf => ?_)
          · replace h := h.1 hc
            refine S.skip hf rfl rfl rfl (fun a hf => ?_)
            refine S.skip hf rfl rfl rfl (fun a hf => ?_)
            refine S.val hf hs (v := .bool true) rfl rfl rfl (V.pure rfl) (fun a hf => ?_)
            refine S.val hf hs (v := .bool true) rfl rfl rfl (V.pure rfl) (fun a hf => ?_)
            refine S.val hf hs (v := .bool true) rfl rfl rfl (V.pure rfl) (fun a hf => ?_)
            refine S.val hf hs (v := .int .u8 (x1.toNat : Int)) rfl rfl rfl (V.pure rfl) (fun a hf => ?_)
            refine S.val hf hs (v := .bool (decide ((x1.toNat : Int) < 48))) rfl rfl rfl (V.pure rfl) (fun a hf => ?_)
            refine S.split hf hs (b := decide ((x1.toNat : Int) < 48)) rfl rfl rfl (V.pure rfl) (fun hc a hf => ?_) (fun hc a hf => ?_)
            · replace h := h.1 hc
              refine S.skip hf rfl rfl rfl (fun a hf => ?_)
              refine S.skip hf rfl rfl rfl (fun a hf => ?_)
              refine S.val hf hs (v := .bool true) rfl rfl rfl (V.pure rfl) (fun a hf => ?_)
              refine S.val hf hs (v := .bool true) rfl rfl rfl (V.pure rfl) (fun a hf => ?_)
              refine S.val hf hs (v := .bool true) rfl rfl rfl (V.pure rfl) (fun a hf => ?_)
              refine S.val hf hs (v := .int .u8 (x1.toNat : Int)) rfl rfl rfl (V.pure rfl) (fun a hf => ?_)
              refine S.callv hf rfl rfl rfl (call_fn (vs := [.string (ba [95, 43, 45, 35]), .int .u8 (x1.toNat : Int)]) rfl rfl rfl Tryz.call148) (C_strings_IndexByte [95, 43, 45, 35] (x1.toNat : Int) _ ) (fun a w hf hs' => ?_)
              replace hs := hs.call hs'; clear hs'
              refine S.val hf hs (v := .bool (decide ((byteAt [95, 43, 45, 35] (x1.toNat : Int)) < 0))) rfl rfl rfl (V.pure rfl) (fun a hf => ?_)
              refine S.val hf hs (v := .bool (decide ((byteAt [95, 43, 45, 35] (x1.toNat : Int)) < 0))) rfl rfl rfl (V.pure rfl) (fun a hf => ?_)
              refine R.nil ?_
              refine X.then_ ?_
              exact ⟨(decide ((byteAt [95, 43, 45, 35] (x1.toNat : Int)) < 0)), h, ((((hf.nil.cons (hf.get 39 _ rfl)).cons (hf.get 7 _ rfl)).cons (hf.get 6 _ rfl)).cons (hf.get 0 _ rfl)), hs⟩
            · replace h := h.2 hc
              refine S.val hf hs (v := .int .u8 (x1.toNat : Int)) rfl rfl rfl (V.pure rfl) (fun a hf => ?_)
              refine S.val hf hs (v := .bool (decide ((x1.toNat : Int) > 57))) rfl rfl rfl (V.pure rfl) (fun a hf => ?_)
              refine S.val hf hs (v := .bool (decide ((x1.toNat : Int) > 57))) rfl rfl rfl (V.pure rfl) (fun a hf => ?_)
              refine S.val hf hs (v := .bool (decide ((x1.toNat : Int) > 57))) rfl rfl rfl (V.pure rfl) (fun a hf => ?_)
              refine S.split hf hs (b := decide ((x1.toNat : Int) > 57)) rfl rfl rfl (V.pure rfl) (fun hc a hf => ?_) (fun hc a hf => ?_)
              · replace h := h.1 hc
                refine S.val hf hs (v := .int .u8 (x1.toNat : Int)) rfl rfl rfl (V.pure rfl) (fun a hf => ?_)
                refine S.callv hf rfl rfl rfl (call_fn (vs := [.string (ba [95, 43, 45, 35]), .int .u8 (x1.toNat : Int)]) rfl rfl rfl Tryz.call148) (C_strings_IndexByte [95, 43, 45, 35] (x1.toNat : Int) _ ) (fun a w hf hs' => ?_)
                replace hs := hs.call hs'; clear hs'
                refine S.val hf hs (v := .bool (decide ((byteAt [95, 43, 45, 35] (x1.toNat : Int)) < 0))) rfl rfl rfl (V.pure rfl) (fun a hf => ?_)
                refine S.val hf hs (v := .bool (decide ((byteAt [95, 43, 45, 35] (x1.toNat : Int)) < 0))) rfl rfl rfl (V.pure rfl) (fun a hf => ?_)
                refine R.nil ?_
                refine X.then_ ?_
                exact ⟨(decide ((byteAt [95, 43, 45, 35] (x1.toNat : Int)) < 0)), h, ((((hf.nil.cons (hf.get 39 _ rfl)).cons (hf.get 7 _ rfl)).cons (hf.get 6 _ rfl)).cons (hf.get 0 _ rfl)), hs⟩
              · replace h := h.2 hc
                refine S.skip hf rfl rfl rfl (fun a hf => ?_)
                refine S.skip hf rfl rfl rfl (fun a hf => ?_)
                refine S.skip hf rfl rfl rfl (fun a hf => ?_)
                refine S.val hf hs (v := .bool false) rfl rfl rfl (V.pure rfl) (fun a hf => ?_)
                refine R.nil ?_
                refine X.then_ ?_
                exact ⟨false, h, ((((hf.nil.cons (hf.get 39 _ rfl)).cons (hf.get 7 _ rfl)).cons (hf.get 6 _ rfl)).cons (hf.get 0 _ rfl)), hs⟩
          · replace h := h.2 hc
            refine S.val hf hs (v := .int .u8 (x1.toNat : Int)) rfl rfl rfl (V.pure rfl) (fun a hf => ?_)
            refine S.val hf hs (v := .bool (decide ((x1.toNat : Int) > 90))) rfl rfl rfl (V.pure rfl) (fun a hf => ?_)
            refine S.val hf hs (v := .bool (decide ((x1.toNat : Int) > 90))) rfl rfl rfl (V.pure rfl) (fun a hf => ?_)
            refine S.val hf hs (v := .bool (decide ((x1.toNat : Int) > 90))) rfl rfl rfl (V.pure rfl) (fun a hf => ?_)
            refine S.split hf hs (b := decide ((x1.toNat : Int) > 90)) rfl rfl rfl (V.pure rfl) (fun hc a hf => ?_) (fun hc a hf => ?_)
            · replace h := h.1 hc
              refine S.val hf hs (v := .int .u8 (x1.toNat : Int)) rfl rfl rfl (V.pure rfl) (fun a hf => ?_)
              refine S.val hf hs (v := .bool (decide ((x1.toNat : Int) < 48))) rfl rfl rfl (V.pure rfl) (fun a hf => ?_)
              refine S.split hf hs (b := decide ((x1.toNat : Int) < 48)) rfl rfl rfl (V.pure rfl) (fun hc a hf => ?_) (fun hc a hf => ?_)
              · replace h := h.1 hc
                refine S.skip hf rfl rfl rfl (fun a hf => ?_)
                refine S.skip hf rfl rfl rfl (fun a hf => ?_)
                refine S.val hf hs (v := .bool true) rfl rfl rfl (V.pure rfl) (fun a hf => ?_)
                refine S.val hf hs (v := .bool true) rfl rfl rfl (V.pure rfl) (fun a hf => ?_)
                refine S.val hf hs (v := .bool true) rfl rfl rfl (V.pure rfl) (fun a hf => ?_)
                refine S.val hf hs (v := .int .u8 (x1.toNat : Int)) rfl rfl rfl (V.pure rfl) (fun a hf => ?_)
                refine S.callv hf rfl rfl rfl (call_fn (vs := [.string (ba [95, 43, 45, 35]), .int .u8 (x1.toNat : Int)]) rfl rfl rfl Tryz.call148) (C_strings_IndexByte [95, 43, 45, 35] (x1.toNat : Int) _ ) (fun a w hf hs' => ?_)
                replace hs := hs.call hs'; clear hs'
                refine S.val hf hs (v := .bool (decide ((byteAt [95, 43, 45, 35] (x1.toNat : Int)) < 0))) rfl rfl rfl (V.pure rfl) (fun a hf => ?_)
                refine S.val hf hs (v := .bool (decide ((byteAt [95, 43, 45, 35] (x1.toNat : Int)) < 0))) rfl rfl rfl (V.pure rfl) (fun a hf => ?_)
                refine R.nil ?_
                refine X.then_ ?_
                exact ⟨(decide ((byteAt [95, 43, 45, 35] (x1.toNat : Int)) < 0)), h, ((((hf.nil.cons (hf.get 39 _ rfl)).cons (hf.get 7 _ rfl)).cons (hf.get 6 _ rfl)).cons (hf.get 0 _ rfl)), hs⟩
              · replace h := h.2 hc
                refine S.val hf hs (v := .int .u8 (x1.toNat : Int)) rfl rfl rfl (V.pure rfl) (fun a hf => ?_)
                refine S.val hf hs (v := .bool (decide ((x1.toNat : Int) > 57))) rfl rfl rfl (V.pure rfl) (fun a hf => ?_)
                refine S.val hf hs (v := .bool (decide ((x1.toNat : Int) > 57))) rfl rfl rfl (V.pure rfl) (fun a hf => ?_)
                refine S.val hf hs (v := .bool (decide ((x1.toNat : Int) > 57))) rfl rfl rfl (V.pure rfl) (fun a hf => ?_)
                refine S.split hf hs (b := decide ((x1.toNat : Int) > 57)) rfl rfl rfl (V.pure rfl) (fun hc a hf => ?_) (fun hc a hf => ?_)
                · replace h := h.1 hc
                  refine S.val hf hs (v := .int .u8 (x1.toNat : Int)) rfl rfl rfl (V.pure rfl) (fun a hf => ?_)
                  refine S.callv hf rfl rfl rfl (call_fn (vs := [.string (ba [95, 43, 45, 35]), .int .u8 (x1.toNat : Int)]) rfl rfl rfl Tryz.call148) (C_strings_IndexByte [95, 43, 45, 35] (x1.toNat : Int) _ ) (fun a w hf hs' => ?_)
                  replace hs := hs.call hs'; clear hs'
                  refine S.val hf hs (v := .bool (decide ((byteAt [95, 43, 45, 35] (x1.toNat : Int)) < 0))) rfl rfl rfl (V.pure rfl) (fun a hf => ?_)
                  refine S.val hf hs (v := .bool (decide ((byteAt [95, 43, 45, 35] (x1.toNat : Int)) < 0))) rfl rfl rfl (V.pure rfl) (fun a hf => ?_)
                  refine R.nil ?_
                  refine X.then_ ?_
                  exact ⟨(decide ((byteAt [95, 43, 45, 35] (x1.toNat : Int)) < 0)), h, ((((hf.nil.cons (hf.get 39 _ rfl)).cons (hf.get 7 _ rfl)).cons (hf.get 6 _ rfl)).cons (hf.get 0 _ rfl)), hs⟩
                · replace h := h.2 hc
                  refine S.skip hf rfl rfl rfl (fun a hf => ?_)
                  refine S.skip hf rfl rfl rfl (fun a hf => ?_)
                  refine S.skip hf rfl rfl rfl (fun a hf => ?_)
                  refine S.val hf hs (v := .bool false) rfl rfl rfl (V.pure rfl) (fun a hf => ?_)
                  refine R.nil ?_
                  refine X.then_ ?_
                  exact ⟨false, h, ((((hf.nil.cons (hf.get 39 _ rfl)).cons (hf.get 7 _ rfl)).cons (hf.get 6 _ rfl)).cons (hf.get 0 _ rfl)), hs⟩
            · replace h := h.2 hc
              refine S.skip hf rfl rfl rfl (fun a hf => ?_)
              refine S.skip hf rfl rfl rfl (fun a hf => ?_)
              refine S.skip hf rfl rfl rfl (fun a hf => ?_)
              refine S.skip hf rfl rfl rfl (fun a hf => ?_)
              refine S.skip hf rfl rfl rfl (fun a hf => ?_)
              refine S.skip hf rfl rfl rfl (fun a hf => ?_)
              refine S.val hf hs (v := .bool false) rfl rfl rfl (V.pure rfl) (fun a hf => ?_)
              refine S.val hf hs (v := .bool false) rfl rfl rfl (V.pure rfl) (fun a hf => ?_)
              refine S.skip hf rfl rfl rfl (fun a hf => ?_)
              refine S.skip hf rfl rfl rfl (fun a hf => ?_)
              refine S.skip hf rfl rfl rfl (fun a hf => ?_)
              refine S.val hf hs (v := .bool false) rfl rfl rfl (V.pure rfl) (fun a hf => ?_)
              refine R.nil ?_
              refine X.then_ ?_
              exact ⟨false, h, ((((hf.nil.cons (hf.get 39 _ rfl)).cons (hf.get 7 _ rfl)).cons (hf.get 6 _ rfl)).cons (hf.get 0 _ rfl)), hs⟩
        · replace h := h.2 hc
          refine S.skip hf rfl rfl rfl (fun a hf => ?_)
          refine S.skip hf rfl rfl rfl (fun a hf => ?_)
          refine S.skip hf rfl rfl rfl (fun a hf => ?_)
          refine S.skip hf rfl rfl rfl (fun a hf => ?_)
          refine S.skip hf rfl rfl rfl (fun a hf => ?_)
          refine S.skip hf rfl rfl rfl (fun a hf => ?_)
          refine S.val hf hs (v := .bool false) rfl rfl rfl (V.pure rfl) (fun a hf => ?_)
          refine S.val hf hs (v := .bool false) rfl rfl rfl (V.pure rfl) (fun a hf => ?_)
          refine S.skip hf rfl rfl rfl (fun a hf => ?_)
          refine S.skip hf rfl rfl rfl (fun a hf => ?_)
          refine S.skip hf rfl rfl rfl (fun a hf => ?_)
          refine S.skip hf rfl rfl rfl (fun a hf => ?_)
          refine S.skip hf rfl rfl rfl (fun a hf => ?_)
          refine S.skip hf rfl rfl rfl (fun a hf => ?_)
          refine S.val hf hs (v := .bool false) rfl rfl rfl (V.pure rfl) (fun a hf => ?_)
          refine S.val hf hs (v := .bool false) rfl rfl rfl (V.pure rfl) (fun a hf => ?_)
          refine S.skip hf rfl rfl rfl (fun a hf => ?_)
          refine S.skip hf rfl rfl rfl (fun a hf => ?_)
          refine S.skip hf rfl rfl rfl (fun a hf => ?_)
          refine S.val hf hs (v := .bool false) rfl rfl rfl (V.pure rfl) (fun a hf => ?_)
          refine R.nil ?_
          refine X.then_ ?_
          exact ⟨false, h, ((((hf.nil.cons (hf.get 39 _ rfl)).cons (hf.get 7 _ rfl)).cons (hf.get 6 _ rfl)).cons (hf.get 0 _ rfl)), hs⟩
  · replace h := h.2 hc
    refine wp_exit ?_
    refine X.then_exit ?_
    refine X.then_exit ?_
    refine X.blk_exit ?_
    refine X.then_ ?_
    refine wp_seq ?_
    refine R.list ?_
    refine S.val hf hs (v := .string (ba s_)) rfl rfl rfl (V.pure rfl) (fun a hf => ?_)
    refine S.val hf hs (v := .int .i64 (s_.length : Int)) rfl rfl rfl (V.lenStr rfl rfl Tryz.runUnderlying9) (fun a hf => ?_)
    refine S.callv hf rfl rfl rfl (call_fn (vs := [.int .i64 (s_.length : Int), .int .i64 1, .int .i64 40]) rfl rfl rfl Tryz.call153) (C_ref4_within (s_.length : Int) 1 40 _ ) (fun a w hf hs' => ?_)
    replace hs := hs.call hs'; clear hs'
    refine S.val hf hs (v := .bool (within (s_.length : Int) 1 40)) rfl rfl rfl (V.pure rfl) (fun a hf => ?_)
    refine R.nil ?_
    refine X.then_ ?_
    refine wp_ret ?_
    exact L.ret hf (run_results1 Tryz.results152 (ResIs.tmp hf rfl)) ⟨(within (s_.length : Int) 1 40), rfl, h, hs.nil⟩

set_option linter.unusedVariables false
def M_stack_CheckMaterials_k3 (Q : Int → Prop) (next1 : Prop) (c2 : Bool) : Prop :=
  cnd c2 (Q 8) (next1)
def M_stack_CheckMaterials_k2 (m : (List Material)) (Q : Int → Prop) (k1 : Nat) (xk1 : Material) (next1 : Prop) (c1 : Bool) : Prop :=
  cnd c1 (Q 1) (cnd (decide ((k1 : Int) > 0)) (idx m (w64 ((k1 : Int) - 1)) fun x1 => M_stack_CheckMaterials_k3 Q next1 (strLt xk1.Name x1.Name || xk1.Name == x1.Name)) (M_stack_CheckMaterials_k3 Q next1 false))
def M_stack_CheckMaterials_L1 (m : (List Material)) (Q : Int → Prop) (k1 : Nat) (xk1 : Material)  (next1 : Prop) : Prop :=
  M_netlist_IsWord xk1.Name fun y1 => cnd (!y1) (Q 5) (cnd (!(within xk1.Kind 1 3)) (Q 4) (cnd (!(within xk1.Thick 1 2000)) (M_stack_CheckMaterials_k2 m Q k1 xk1 next1 true) (M_stack_CheckMaterials_k2 m Q k1 xk1 next1 (!(within xk1.Grow 0 1000)))))
def M_stack_CheckMaterials (m : (List Material)) (Q : Int → Prop) : Prop :=
  cnd (decide ((m.length : Int) > 50)) (Q 2) (forIn' (fun k x (s : Unit) next => M_stack_CheckMaterials_L1 m Q k x (next ())) (fun (s : Unit) => Q 0) m 0 ())
set_option maxHeartbeats 1000000 in
theorem R_stack_CheckMaterials (m : (List Material)) (w0 : World) (mA : Option Addr) (mC : Nat) (hv_m : View w0 (old w0 none_) mA mC m) (Q : Int → Prop) (h : M_stack_CheckMaterials m Q) :
    Ret Tryz.prog 85 #[.slice mA m.length mC] w0 fun v w' => ∃ (r0 : Int), v = .int .i64 r0 ∧ Q r0 ∧ Sat w0 none_ [] w' := by
  refine fn_enter Tryz.func85 rfl Tryz.ntmps85 rfl (fs := [(0, .slice mA m.length mC)]) rfl (fun a hf => ?_)
  have hs := Sat.start w0 none_
  unfold M_stack_CheckMaterials at h
  refine wp_seq ?_
  refine R.list ?_
  refine S.val hf hs (v := .int .i64 0) rfl rfl rfl (V.pure rfl) (fun a hf => ?_)
  refine R.nil ?_
  refine X.then_ ?_
  refine wp_seq ?_
  refine wp_seq ?_
  refine R.list ?_
  refine S.val hf hs (v := .slice mA m.length mC) rfl rfl rfl (V.pure rfl) (fun a hf => ?_)
  refine S.val hf hs (v := .int .i64 (m.length : Int)) rfl rfl rfl (V.len rfl rfl Tryz.runUnderlying22) (fun a hf => ?_)
  refine S.val hf hs (v := .bool (decide ((m.length : Int) > 50))) rfl rfl rfl (V.pure rfl) (fun a hf => ?_)
  refine R.nil ?_
  refine X.then_ ?_
  refine C.cond hf (b := decide ((m.length : Int) > 50)) rfl (fun hc => ?_) (fun hc => ?_)
  · replace h := h.1 hc
    refine wp_seq ?_
    refine R.list ?_
    refine S.val hf hs (v := .int .i64 2) rfl rfl rfl (V.pure rfl) (fun a hf => ?_)
    refine R.nil ?_
    refine X.then_ ?_
    refine wp_ret ?_
    refine X.then_ret ?_
    exact L.ret hf (run_results1 Tryz.results85 (ResIs.tmp hf rfl)) ⟨2, rfl, h, hs.nil⟩
  · replace h := h.2 hc
    refine wp_skip ?_
    refine X.then_ ?_
    refine wp_seq ?_
    refine wp_seq ?_
    refine R.list ?_
    refine S.val hf hs (v := .slice mA m.length mC) rfl rfl rfl (V.pure rfl) (fun a hf => ?_)
    refine S.val hf hs (v := .int .i64 (m.length : Int)) rfl rfl rfl (V.len rfl rfl Tryz.runUnderlying22) (fun a hf => ?_)
    refine S.val hf hs (v := .int .i64 0) rfl rfl rfl (V.pure rfl) (fun a hf => ?_)
    refine R.nil ?_
    refine X.then_ ?_
    refine wp_block ?_
    have hlenk1 := hv_m.len64
    refine C.range (fun (ll : List Material) a w => ∃ (k1 : Nat) , m.drop k1 = ll ∧ k1 + ll.length = m.length ∧ forIn' (fun k x (s : Unit) next => M_stack_CheckMaterials_L1 m Q k x (next ())) (fun (s : Unit) => Q 0) ll k1 () ∧ FrOk 51 [(10, .int .i64 (k1 : Int)), (0, .slice mA m.length mC), (8, .slice mA m.length mC), (9, .int .i64 (m.length : Int))] a ∧ Sat w0 none_ [] w) m ⟨0, rfl, Nat.zero_add _, h, ((((hf.nil.cons (hf.get 9 _ rfl)).cons (hf.get 8 _ rfl)).cons (hf.get 0 _ rfl)).cons (hf.get 10 _ rfl)), hs⟩ ?_
    clear h hf hs
    rintro llk1 a w ⟨k1, hlk1, hkk1, h, hf, hs⟩
    cases llk1 with
    | nil =>
      have hc := range_done hkk1
      replace h : Q 0 := h
      refine wp_seq ?_
      refine R.list ?_
      refine S.val hf hs (v := .bool false) rfl rfl rfl (V.cmp false rfl rfl rfl rfl hc) (fun a hf => ?_)
      refine R.nil ?_
      refine X.then_ ?_
      refine wp_seq ?_
      refine C.no hf rfl ?_
      refine wp_exit ?_
      refine X.then_exit ?_
      refine X.then_exit ?_
      refine X.blk_exit ?_
      refine X.then_ ?_
      refine wp_seq ?_
      refine R.list ?_
      refine S.val hf hs (v := .int .i64 0) rfl rfl rfl (V.pure rfl) (fun a hf => ?_)
      refine R.nil ?_
      refine X.then_ ?_
      refine wp_ret ?_
      exact L.ret hf (run_results1 Tryz.results85 (ResIs.tmp hf rfl)) ⟨0, rfl, h, hs.nil⟩
    | cons xk1 llk1 =>
      have hltk1 := range_lt hkk1; have hc := range_go hkk1; have hxk1 := range_get hlk1
      obtain ⟨next1, hnext1⟩ : ∃ X : Prop, X = (forIn' (fun k x (s : Unit) next => M_stack_CheckMaterials_L1 m Q k x (next ())) (fun (s : Unit) => Q 0) llk1 (k1 + 1) ()) := ⟨_, rfl⟩
      replace h : M_stack_CheckMaterials_L1 m Q k1 xk1  next1 := by rw [hnext1]; exact h
      unfold M_stack_CheckMaterials_L1 at h
      refine wp_seq ?_
      refine R.list ?_
      refine S.val hf hs (v := .bool true) rfl rfl rfl (V.cmp true rfl rfl rfl rfl hc) (fun a hf => ?_)
      refine R.nil ?_
      refine X.then_ ?_
      refine wp_seq ?_
      refine C.yes hf rfl ?_
      refine wp_skip ?_
      refine X.then_ ?_
      refine wp_seq ?_
      refine wp_block ?_
      refine wp_seq ?_
      refine R.list ?_
      refine S.val hf hs (v := .int .i64 (k1 : Int)) rfl rfl rfl (V.pure rfl) (fun a hf => ?_)
      refine S.val hf hs (v := elemPtr mA (k1 * 4)) rfl rfl rfl (V.index rfl rfl rfl Tryz.runUnderlying22 Tryz.sizeOf29 (hv_m.some_ (lt_of_get hxk1)) (Int.natCast_nonneg _) (lt_of_get hxk1) rfl) (fun a hf => ?_)
      refine S.val hf hs (v := .agg #[.string (ba xk1.Name), .int .i64 xk1.Kind, .int .i64 xk1.Thick, .int .i64 xk1.Grow]) rfl rfl rfl (V.loadEl (off := 0) (Ag.args _ _ _) (hv_m.flat hxk1) rfl rfl rfl Tryz.isAgg29 Tryz.sizeOf29 rfl rfl) (fun a hf => ?_)
      refine S.alloc hf hs rfl rfl rfl [.string (ba []), .int .i64 0, .int .i64 0, .int .i64 0] rfl Tryz.zeroValue29 rfl (fun g1 a w hf hs => ?_)
      refine S.val hf hs (v := .int .i64 (k1 : Int)) rfl rfl rfl (V.pure rfl) (fun a hf => ?_)
      refine S.storeBox 0 hf hs rfl rfl [.string (ba xk1.Name), .int .i64 xk1.Kind, .int .i64 xk1.Thick, .int .i64 xk1.Grow] [.string (ba xk1.Name), .int .i64 xk1.Kind, .int .i64 xk1.Thick, .int .i64 xk1.Grow] rfl rfl rfl rfl rfl Tryz.sizeOf29 rfl rfl rfl rfl (fun a w hf hs => ?_)
      refine R.nil ?_
      refine X.then_ ?_
      refine wp_block ?_
      refine wp_seq ?_
      refine R.list ?_
      refine S.val hf hs (v := .pointer (some ⟨g1, 0, none⟩)) rfl rfl rfl (V.fieldBox rfl rfl Tryz.runUnderlying29 rfl Tryz.sizeOf9 rfl rfl) (fun a hf => ?_)
      refine S.val hf hs (v := .string (ba xk1.Name)) rfl rfl rfl (V.loadBox 0 rfl rfl rfl Tryz.isAgg9 Tryz.sizeOf9 rfl rfl) (fun a hf => ?_)
      refine S.call hf rfl rfl rfl (call_fn (vs := [.string (ba xk1.Name)]) rfl rfl rfl Tryz.call87) (R_netlist_IsWord xk1.Name _  _ h) (fun v a w' hf hr => ?_)
      obtain ⟨y1, rfl, h2, hs2⟩ := hr
      replace h := h2; replace hs := hs.call hs2; clear h2 hs2
      refine S.val hf hs (v := .bool (!y1)) rfl rfl rfl (V.pure rfl) (fun a hf => ?_)
      refine S.val hf hs (v := .bool (!y1)) rfl rfl rfl (V.pure rfl) (fun a hf => ?_)
      refine R.nil ?_
      refine X.then_ ?_
      refine C.cond hf (b := !y1) rfl (fun hc => ?_) (fun hc => ?_)
      · replace h := h.1 hc
        refine wp_seq ?_
        refine R.list ?_
        refine S.val hf hs (v := .int .i64 5) rfl rfl rfl (V.pure rfl) (fun a hf => ?_)
        refine R.nil ?_
        refine X.then_ ?_
        refine wp_ret ?_
        refine X.blk_ret ?_
        refine X.blk_ret ?_
        refine X.then_ret ?_
        refine X.then_ret ?_
        refine X.blk_ret ?_
        refine X.then_ret ?_
        exact L.ret hf (run_results1 Tryz.results85 (ResIs.tmp hf rfl)) ⟨5, rfl, h, hs.nil⟩
      · replace h := h.2 hc
        refine wp_seq ?_
        refine R.list ?_
        refine S.val hf hs (v := .pointer (some ⟨g1, 1, none⟩)) rfl rfl rfl (V.fieldBox rfl rfl Tryz.runUnderlying29 rfl Tryz.sizeOf3 rfl rfl) (fun a hf => ?_)
        refine S.val hf hs (v := .int .i64 xk1.Kind) rfl rfl rfl (V.loadBox 0 rfl rfl rfl Tryz.isAgg3 Tryz.sizeOf3 rfl rfl) (fun a hf => ?_)
        refine S.callv hf rfl rfl rfl (call_fn (vs := [.int .i64 xk1.Kind, .int .i64 1, .int .i64 3]) rfl rfl rfl Tryz.call144) (C_stack_within xk1.Kind 1 3 _ ) (fun a w hf hs' => ?_)
        replace hs := hs.call hs'; clear hs'
        refine S.val hf hs (v := .bool (!(within xk1.Kind 1 3))) rfl rfl rfl (V.pure rfl) (fun a hf => ?_)
        refine S.val hf hs (v := .bool (!(within xk1.Kind 1 3))) rfl rfl rfl (V.pure rfl) (fun a hf => ?_)
        refine R.nil ?_
        refine X.then_ ?_
        refine C.cond hf (b := !(within xk1.Kind 1 3)) rfl (fun hc => ?_) (fun hc => ?_)
        · replace h := h.1 hc
          refine wp_seq ?_
          refine R.list ?_
          refine S.val hf hs (v := .int .i64 4) rfl rfl rfl (V.pure rfl) (fun a hf => ?_)
          refine R.nil ?_
          refine X.then_ ?_
          refine wp_ret ?_
          refine X.blk_ret ?_
          refine X.blk_ret ?_
          refine X.then_ret ?_
          refine X.then_ret ?_
          refine X.blk_ret ?_
          refine X.then_ret ?_
          exact L.ret hf (run_results1 Tryz.results85 (ResIs.tmp hf rfl)) ⟨4, rfl, h, hs.nil⟩
        · replace h := h.2 hc
          refine wp_seq ?_
          refine C.cut (J := fun a w => ∃ (c1 : Bool), M_stack_CheckMaterials_k2 m Q k1 xk1 next1 c1 ∧ FrOk 51 [(0, .slice mA m.length mC), (3, .int .i64 (k1 : Int)), (4, .pointer (some ⟨g1, 0, none⟩)), (8, .slice mA m.length mC), (9, .int .i64 (m.length : Int)), (10, .int .i64 (k1 : Int)), (25, .bool c1)] a ∧ Sat w0 none_ [hbox g1 29 [.string (ba xk1.Name), .int .i64 xk1.Kind, .int .i64 xk1.Thick, .int .i64 xk1.Grow]] w) ?_ ?_
          · rintro a w ⟨c1, h, hf, hs⟩
            unfold M_stack_CheckMaterials_k2 at h
            refine C.cond hf (b := c1) rfl (fun hc => ?_) (fun hc => ?_)
            · replace h := h.1 hc
              refine wp_seq ?_
              refine R.list ?_
              refine S.val hf hs (v := .int .i64 1) rfl rfl rfl (V.pure rfl) (fun a hf => ?_)
              refine R.nil ?_
              refine X.then_ ?_
              refine wp_ret ?_
              refine X.blk_ret ?_
              refine X.blk_ret ?_
              refine X.then_ret ?_
              refine X.then_ret ?_
              refine X.blk_ret ?_
              refine X.then_ret ?_
              exact L.ret hf (run_results1 Tryz.results85 (ResIs.tmp hf rfl)) ⟨1, rfl, h, hs.nil⟩
            · replace h := h.2 hc
              refine wp_seq ?_
              refine C.cut (J := fun a w => ∃ (c2 : Bool), M_stack_CheckMaterials_k3 Q next1 c2 ∧ FrOk 51 [(0, .slice mA m.length mC), (8, .slice mA m.length mC), (9, .int .i64 (m.length : Int)), (10, .int .i64 (k1 : Int)), (36, .bool c2)] a ∧ Sat w0 none_ [hbox g1 29 [.string (ba xk1.Name), .int .i64 xk1.Kind, .int .i64 xk1.Thick, .int .i64 xk1.Grow]] w) ?_ ?_
              · rintro a w ⟨c2, h, hf, hs⟩
                unfold M_stack_CheckMaterials_k3 at h
                refine C.cond hf (b := c2) rfl (fun hc => ?_) (fun hc => ?_)
                · replace h := h.1 hc
                  refine wp_seq ?_
                  refine R.list ?_
                  refine S.val hf hs (v := .int .i64 8) rfl rfl rfl (V.pure rfl) (fun a hf => ?_)
                  refine R.nil ?_
                  refine X.then_ ?_
                  refine wp_ret ?_
                  refine X.blk_ret ?_
                  refine X.blk_ret ?_
                  refine X.then_ret ?_
                  refine X.then_ret ?_
                  refine X.blk_ret ?_
                  refine X.then_ret ?_
                  exact L.ret hf (run_results1 Tryz.results85 (ResIs.tmp hf rfl)) ⟨8, rfl, h, hs.nil⟩
                · replace h := h.2 hc
                  refine wp_skip ?_
                  refine X.blk ?_
                  refine X.blk ?_
                  refine X.then_ ?_
                  refine R.list ?_
                  refine S.val hf hs (v := .int .i64 ((k1 + 1 : Nat) : Int)) rfl rfl rfl (V.incr rfl rfl rfl hltk1 hlenk1) (fun a hf => ?_)
                  refine S.val hf hs (v := .int .i64 ((k1 + 1 : Nat) : Int)) rfl rfl rfl (V.pure rfl) (fun a hf => ?_)
                  refine R.nil ?_
                  refine X.then_ ?_
                  exact ⟨xk1, llk1, rfl, k1 + 1, range_drop hlk1, range_len hkk1, (by rw [hnext1] at h; exact h), ((((hf.nil.cons (hf.get 9 _ rfl)).cons (hf.get 8 _ rfl)).cons (hf.get 0 _ rfl)).cons (hf.get 10 _ rfl)), hs.drop⟩
              · skip
                refine R.draw mo (by kernel_rfl) hs ?_
                refine D.val hf (v := .int .i64 (k1 : Int)) rfl rfl rfl (V.pure rfl) (fun a hf => ?_)
                refine D.val hf (v := .bool (decide ((k1 : Int) > 0))) rfl rfl rfl (V.pure rfl) (fun a hf => ?_)
                refine D.split hf (b := decide ((k1 : Int) > 0)) rfl rfl rfl (V.pure rfl) (fun hc a hf => ?_) (fun hc a hf => ?_)
                · replace h := h.1 hc
                  refine D.val hf (v := .pointer (some ⟨g1, 0, none⟩)) rfl rfl rfl (V.fieldBox rfl rfl Tryz.runUnderlying29 rfl Tryz.sizeOf9 rfl rfl) (fun a hf => ?_)
                  refine D.val hf (v := .string (ba xk1.Name)) rfl rfl rfl (V.loadBox 0 rfl rfl rfl Tryz.isAgg9 Tryz.sizeOf9 rfl rfl) (fun a hf => ?_)
                  refine D.val hf (v := .slice mA m.length mC) rfl rfl rfl (V.pure rfl) (fun a hf => ?_)
                  refine D.val hf (v := .int .i64 (k1 : Int)) rfl rfl rfl (V.pure rfl) (fun a hf => ?_)
                  refine D.val hf (v := .int .i64 (w64 ((k1 : Int) - 1))) rfl rfl rfl (V.pure rfl) (fun a hf => ?_)
                  obtain ⟨h0x1, x1, hx1, h⟩ := h
                  refine D.val hf (v := elemPtr mA ((w64 ((k1 : Int) - 1)).toNat * 4)) rfl rfl rfl (V.index rfl rfl rfl Tryz.runUnderlying22 Tryz.sizeOf29 (hv_m.some_ (lt_of_get hx1)) h0x1 (lt_of_get hx1) rfl) (fun a hf => ?_)
                  refine D.val hf (v := elemPtr mA ((w64 ((k1 : Int) - 1)).toNat * 4)) rfl rfl rfl (V.fieldEl rfl rfl (hv_m.some_ (lt_of_get hx1)) Tryz.runUnderlying29 rfl Tryz.sizeOf9 rfl rfl) (fun a hf => ?_)
                  refine D.val hf (v := .string (ba x1.Name)) rfl rfl rfl (V.loadEl (off := 0) (Ag.args _ _ _) (hv_m.flat hx1) rfl rfl rfl Tryz.isAgg9 Tryz.sizeOf9 rfl rfl) (fun a hf => ?_)
                  refine D.val hf (v := .bool (strLt xk1.Name x1.Name || xk1.Name == x1.Name)) rfl rfl rfl (V.strCmp (strLt xk1.Name x1.Name || xk1.Name == x1.Name) rfl rfl rfl rfl) (fun a hf => ?_)
                  refine D.val hf (v := .bool (strLt xk1.Name x1.Name || xk1.Name == x1.Name)) rfl rfl rfl (V.pure rfl) (fun a hf => ?_)
                  refine D.val hf (v := .bool (strLt xk1.Name x1.Name || xk1.Name == x1.Name)) rfl rfl rfl (V.pure rfl) (fun a hf => ?_)
                  refine D.done (fun w hs => ?_)
                  refine X.then_ ?_
                  exact ⟨(strLt xk1.Name x1.Name || xk1.Name == x1.Name), h, (((((hf.nil.cons (hf.get 36 _ rfl)).cons (hf.get 10 _ rfl)).cons (hf.get 9 _ rfl)).cons (hf.get 8 _ rfl)).cons (hf.get 0 _ rfl)), hs⟩
                · replace h := h.2 hc
                  refine D.skip hf rfl rfl rfl (fun a hf => ?_)
                  refine D.skip hf rfl rfl rfl (fun a hf => ?_)
                  refine D.skip hf rfl rfl rfl (fun a hf => ?_)
                  refine D.skip hf rfl rfl rfl (fun a hf => ?_)
                  refine D.skip hf rfl rfl rfl (fun a hf => ?_)
                  refine D.skip hf rfl rfl rfl (fun a hf => ?_)
                  refine D.skip hf rfl rfl rfl (fun a hf => ?_)
                  refine D.skip hf rfl rfl rfl (fun a hf => ?_)
                  refine D.skip hf rfl rfl rfl (fun a hf => ?_)
                  refine D.val hf (v := .bool false) rfl rfl rfl (V.pure rfl) (fun a hf => ?_)
                  refine D.val hf (v := .bool false) rfl rfl rfl (V.pure rfl) (fun a hf => ?_)
                  refine D.done (fun w hs => ?_)
                  refine X.then_ ?_
                  exact ⟨false, h, (((((hf.nil.cons (hf.get 36 _ rfl)).cons (hf.get 10 _ rfl)).cons (hf.get 9 _ rfl)).cons (hf.get 8 _ rfl)).cons (hf.get 0 _ rfl)), hs⟩
          · skip
            refine R.list ?_
            refine S.val hf hs (v := .pointer (some ⟨g1, 2, none⟩)) rfl rfl rfl (V.fieldBox rfl rfl Tryz.runUnderlying29 rfl Tryz.sizeOf3 rfl rfl) (fun a hf => ?_)
            refine S.val hf hs (v := .int .i64 xk1.Thick) rfl rfl rfl (V.loadBox 0 rfl rfl rfl Tryz.isAgg3 Tryz.sizeOf3 rfl rfl) (fun a hf => ?_)
            refine S.callv hf rfl rfl rfl (call_fn (vs := [.int .i64 xk1.Thick, .int .i64 1, .int .i64 2000]) rfl rfl rfl Tryz.call144) (C_stack_within xk1.Thick 1 2000 _ ) (fun a w hf hs' => ?_)
            replace hs := hs.call hs'; clear hs'
            refine S.val hf hs (v := .bool (!(within xk1.Thick 1 2000))) rfl rfl rfl (V.pure rfl) (fun a hf => ?_)
            refine S.split hf hs (b := !(within xk1.Thick 1 2000)) rfl rfl rfl (V.pure rfl) (fun hc a hf => ?_) (fun hc a hf => ?_)
            · replace h := h.1 hc
              refine S.skip hf rfl rfl rfl (fun a hf => ?_)
              refine S.skip hf rfl rfl rfl (fun a hf => ?_)
              refine S.skip hf rfl rfl rfl (fun a hf => ?_)
              refine S.skip hf rfl rfl rfl (fun a hf => ?_)
              refine S.val hf hs (v := .bool true) rfl rfl rfl (V.pure rfl) (fun a hf => ?_)
              refine S.val hf hs (v := .bool true) rfl rfl rfl (V.pure rfl) (fun a hf => ?_)
              refine R.nil ?_
              refine X.then_ ?_
              exact ⟨true, h, (((((((hf.nil.cons (hf.get 25 _ rfl)).cons (hf.get 10 _ rfl)).cons (hf.get 9 _ rfl)).cons (hf.get 8 _ rfl)).cons (hf.get 4 _ rfl)).cons (hf.get 3 _ rfl)).cons (hf.get 0 _ rfl)), hs⟩
            · replace h := h.2 hc
              refine S.val hf hs (v := .pointer (some ⟨g1, 3, none⟩)) rfl rfl rfl (V.fieldBox rfl rfl Tryz.runUnderlying29 rfl Tryz.sizeOf3 rfl rfl) (fun a hf => ?_)
              refine S.val hf hs (v := .int .i64 xk1.Grow) rfl rfl rfl (V.loadBox 0 rfl rfl rfl Tryz.isAgg3 Tryz.sizeOf3 rfl rfl) (fun a hf => ?_)
              refine S.callv hf rfl rfl rfl (call_fn (vs := [.int .i64 xk1.Grow, .int .i64 0, .int .i64 1000]) rfl rfl rfl Tryz.call144) (C_stack_within xk1.Grow 0 1000 _ ) (fun a w hf hs' => ?_)
              replace hs := hs.call hs'; clear hs'
              refine S.val hf hs (v := .bool (!(within xk1.Grow 0 1000))) rfl rfl rfl (V.pure rfl) (fun a hf => ?_)
              refine S.val hf hs (v := .bool (!(within xk1.Grow 0 1000))) rfl rfl rfl (V.pure rfl) (fun a hf => ?_)
              refine S.val hf hs (v := .bool (!(within xk1.Grow 0 1000))) rfl rfl rfl (V.pure rfl) (fun a hf => ?_)
              refine R.nil ?_
              refine X.then_ ?_
              exact ⟨(!(within xk1.Grow 0 1000)), h, (((((((hf.nil.cons (hf.get 25 _ rfl)).cons (hf.get 10 _ rfl)).cons (hf.get 9 _ rfl)).cons (hf.get 8 _ rfl)).cons (hf.get 4 _ rfl)).cons (hf.get 3 _ rfl)).cons (hf.get 0 _ rfl)), hs⟩

set_option linter.unusedVariables false
def M_ref4_CheckMaterials_k3 (Q : Int → Prop) (next1 : Prop) (c2 : Bool) : Prop :=
  cnd c2 (Q 8) (next1)
def M_ref4_CheckMaterials_k2 (m : (List Material)) (Q : Int → Prop) (k1 : Nat) (xk1 : Material) (next1 : Prop) (c1 : Bool) : Prop :=
  cnd c1 (Q 1) (cnd (decide ((k1 : Int) > 0)) (idx m (w64 ((k1 : Int) - 1)) fun x1 => M_ref4_CheckMaterials_k3 Q next1 (strLt xk1.Name x1.Name || xk1.Name == x1.Name)) (M_ref4_CheckMaterials_k3 Q next1 false))
def M_ref4_CheckMaterials_L1 (m : (List Material)) (Q : Int → Prop) (k1 : Nat) (xk1 : Material)  (next1 : Prop) : Prop :=
  M_ref4_isWord xk1.Name fun y1 => cnd (!y1) (Q 5) (cnd (!(within xk1.Kind 1 3)) (Q 4) (cnd (!(within xk1.Thick 1 2000)) (M_ref4_CheckMaterials_k2 m Q k1 xk1 next1 true) (M_ref4_CheckMaterials_k2 m Q k1 xk1 next1 (!(within xk1.Grow 0 1000)))))
def M_ref4_CheckMaterials (m : (List Material)) (Q : Int → Prop) : Prop :=
  cnd (decide ((m.length : Int) > 50)) (Q 2) (forIn' (fun k x (s : Unit) next => M_ref4_CheckMaterials_L1 m Q k x (next ())) (fun (s : Unit) => Q 0) m 0 ())
set_option maxHeartbeats 1000000 in
theorem R_ref4_CheckMaterials (m : (List Material)) (w0 : World) (mA : Option Addr) (mC : Nat) (hv_m : View w0 (old w0 none_) mA mC m) (Q : Int → Prop) (h : M_ref4_CheckMaterials m Q) :
    Ret Tryz.prog 93 #[.slice mA m.length mC] w0 fun v w' => ∃ (r0 : Int), v = .int .i64 r0 ∧ Q r0 ∧ Sat w0 none_ [] w' := by
  refine fn_enter Tryz.func93 rfl Tryz.ntmps93 rfl (fs := [(0, .slice mA m.length mC)]) rfl (fun a hf => ?_)
  have hs := Sat.start w0 none_
  unfold M_ref4_CheckMaterials at h
  refine wp_seq ?_
  refine R.list ?_
  refine S.val hf hs (v := .int .i64 0) rfl rfl rfl (V.pure rfl) (fun a hf => ?_)
  refine R.nil ?_
  refine X.then_ ?_
  refine wp_seq ?_
  refine wp_seq ?_
  refine R.list ?_
  refine S.val hf hs (v := .slice mA m.length mC) rfl rfl rfl (V.pure rfl) (fun a hf => ?_)
  refine S.val hf hs (v := .int .i64 (m.length : Int)) rfl rfl rfl (V.len rfl rfl Tryz.runUnderlying22) (fun a hf => ?_)
  refine S.val hf hs (v := .bool (decide ((m.length : Int) > 50))) rfl rfl rfl (V.pure rfl) (fun a hf => ?_)
  refine R.nil ?_
  refine X.then_ ?_
  refine C.cond hf (b := decide ((m.length : Int) > 50)) rfl (fun hc => ?_) (fun hc => ?_)
  · replace h := h.1 hc
    refine wp_seq ?_
    refine R.list ?_
    refine S.val hf hs (v := .int .i64 2) rfl rfl rfl (V.pure rfl) (fun a hf => ?_)
    refine R.nil ?_
    refine X.then_ ?_
    refine wp_ret ?_
    refine X.then_ret ?_
    exact L.ret hf (run_results1 Tryz.results93 (ResIs.tmp hf rfl)) ⟨2, rfl, h, hs.nil⟩
  · replace h := h.2 hc
    refine wp_skip ?_
    refine X.then_ ?_
    refine wp_seq ?_
    refine wp_seq ?_
    refine R.list ?_
    refine S.val hf hs (v := .slice mA m.length mC) rfl rfl rfl (V.pure rfl) (fun a hf => ?_)
    refine S.val hf hs (v := .int .i64 (m.length : Int)) rfl rfl rfl (V.len rfl rfl Tryz.runUnderlying22) (fun a hf => ?_)
    refine S.val hf hs (v := .int .i64 0) rfl rfl rfl (V.pure rfl) (fun a hf => ?_)
    refine R.nil ?_
    refine X.then_ ?_
    refine wp_block ?_
    have hlenk1 := hv_m.len64
    refine C.range (fun (ll : List Material) a w => ∃ (k1 : Nat) , m.drop k1 = ll ∧ k1 + ll.length = m.length ∧ forIn' (fun k x (s : Unit) next => M_ref4_CheckMaterials_L1 m Q k x (next ())) (fun (s : Unit) => Q 0) ll k1 () ∧ FrOk 51 [(10, .int .i64 (k1 : Int)), (0, .slice mA m.length mC), (8, .slice mA m.length mC), (9, .int .i64 (m.length : Int))] a ∧ Sat w0 none_ [] w) m ⟨0, rfl, Nat.zero_add _, h, ((((hf.nil.cons (hf.get 9 _ rfl)).cons (hf.get 8 _ rfl)).cons (hf.get 0 _ rfl)).cons (hf.get 10 _ rfl)), hs⟩ ?_
    clear h hf hs
    rintro llk1 a w ⟨k1, hlk1, hkk1, h, hf, hs⟩
    cases llk1 with
    | nil =>
      have hc := range_done hkk1
      replace h : Q 0 := h
      refine wp_seq ?_
      refine R.list ?_
      refine S.val hf hs (v := .bool false) rfl rfl rfl (V.cmp false rfl rfl rfl rfl hc) (fun a hf => ?_)
      refine R.nil ?_
      refine X.then_ ?_
      refine wp_seq ?_
      refine C.no hf rfl ?_
      refine wp_exit ?_
      refine X.then_exit ?_
      refine X.then_exit ?_
      refine X.blk_exit ?_
      refine X.then_ ?_
      refine wp_seq ?_
      refine R.list ?_
      refine S.val hf hs (v := .int .i64 0) rfl rfl rfl (V.pure rfl) (fun a hf => ?_)
      refine R.nil ?_
      refine X.then_ ?_
      refine wp_ret ?_
      exact L.ret hf (run_results1 Tryz.results93 (ResIs.tmp hf rfl)) ⟨0, rfl, h, hs.nil⟩
    | cons xk1 llk1 =>
      have hltk1 := range_lt hkk1; have hc := range_go hkk1; have hxk1 := range_get hlk1
      obtain ⟨next1, hnext1⟩ : ∃ X : Prop, X = (forIn' (fun k x (s : Unit) next => M_ref4_CheckMaterials_L1 m Q k x (next ())) (fun (s : Unit) => Q 0) llk1 (k1 + 1) ()) := ⟨_, rfl⟩
      replace h : M_ref4_CheckMaterials_L1 m Q k1 xk1  next1 := by rw [hnext1]; exact h
      unfold M_ref4_CheckMaterials_L1 at h
      refine wp_seq ?_
      refine R.list ?_
      refine S.val hf hs (v := .bool true) rfl rfl rfl (V.cmp true rfl rfl rfl rfl hc) (fun a hf => ?_)
      refine R.nil ?_
      refine X.then_ ?_
      refine wp_seq ?_
      refine C.yes hf rfl ?_
      refine wp_skip ?_
      refine X.then_ ?_
      refine wp_seq ?_
      refine wp_block ?_
      refine wp_seq ?_
      refine R.list ?_
      refine S.val hf hs (v := .int .i64 (k1 : Int)) rfl rfl rfl (V.pure rfl) (fun a hf => ?_)
      refine S.val hf hs (v := elemPtr mA (k1 * 4)) rfl rfl rfl (V.index rfl rfl rfl Tryz.runUnderlying22 Tryz.sizeOf29 (hv_m.some_ (lt_of_get hxk1)) (Int.natCast_nonneg _) (lt_of_get hxk1) rfl) (fun a hf => ?_)
      refine S.val hf hs (v := .agg #[.string (ba xk1.Name), .int .i64 xk1.Kind, .int .i64 xk1.Thick, .int .i64 xk1.Grow]) rfl rfl rfl (V.loadEl (off := 0) (Ag.args _ _ _) (hv_m.flat hxk1) rfl rfl rfl Tryz.isAgg29 Tryz.sizeOf29 rfl rfl) (fun a hf => ?_)
      refine S.alloc hf hs rfl rfl rfl [.string (ba []), .int .i64 0, .int .i64 0, .int .i64 0] rfl Tryz.zeroValue29 rfl (fun g1 a w hf hs => ?_)
      refine S.val hf hs (v := .int .i64 (k1 : Int)) rfl rfl rfl (V.pure rfl) (fun a hf => ?_)
      refine S.storeBox 0 hf hs rfl rfl [.string (ba xk1.Name), .int .i64 xk1.Kind, .int .i64 xk1.Thick, .int .i64 xk1.Grow] [.string (ba xk1.Name), .int .i64 xk1.Kind, .int .i64 xk1.Thick, .int .i64 xk1.Grow] rfl rfl rfl rfl rfl Tryz.sizeOf29 rfl rfl rfl rfl (fun a w hf hs => ?_)
      refine R.nil ?_
      refine X.then_ ?_
      refine wp_block ?_
      refine wp_seq ?_
      refine R.list ?_
      refine S.val hf hs (v := .pointer (some ⟨g1, 0, none⟩)) rfl rfl rfl (V.fieldBox rfl rfl Tryz.runUnderlying29 rfl Tryz.sizeOf9 rfl rfl) (fun a hf => ?_)
      refine S.val hf hs (v := .string (ba xk1.Name)) rfl rfl rfl (V.loadBox 0 rfl rfl rfl Tryz.isAgg9 Tryz.sizeOf9 rfl rfl) (fun a hf => ?_)
      refine S.call hf rfl rfl rfl (call_fn (vs := [.string (ba xk1.Name)]) rfl rfl rfl Tryz.call152) (R_ref4_isWord xk1.Name _  _ h) (fun v a w' hf hr => ?_)
      obtain ⟨y1, rfl, h2, hs2⟩ := hr
      replace h := h2; replace hs := hs.call hs2; clear h2 hs2
      refine S.val hf hs (v := .bool (!y1)) rfl rfl rfl (V.pure rfl) (fun a hf => ?_)
      refine S.val hf hs (v := .bool (!y1)) rfl rfl rfl (V.pure rfl) (fun a hf => ?_)
      refine R.nil ?_
      refine X.then_ ?_
      refine C.cond hf (b := !y1) rfl (fun hc => ?_) (fun hc => ?_)
      · replace h := h.1 hc
        refine wp_seq ?_
        refine R.list ?_
        refine S.val hf hs (v := .int .i64 5) rfl rfl rfl (V.pure rfl) (fun a hf => ?_)
        refine R.nil ?_
        refine X.then_ ?_
        refine wp_ret ?_
        refine X.blk_ret ?_
        refine X.blk_ret ?_
        refine X.then_ret ?_
        refine X.then_ret ?_
        refine X.blk_ret ?_
        refine X.then_ret ?_
        exact L.ret hf (run_results1 Tryz.results93 (ResIs.tmp hf rfl)) ⟨5, rfl, h, hs.nil⟩
      · replace h := h.2 hc
        refine wp_seq ?_
        refine R.list ?_
        refine S.val hf hs (v := .pointer (some ⟨g1, 1, none⟩)) rfl rfl rfl (V.fieldBox rfl rfl Tryz.runUnderlying29 rfl Tryz.sizeOf3 rfl rfl) (fun a hf => ?_)
        refine S.val hf hs (v := .int .i64 xk1.Kind) rfl rfl rfl (V.loadBox 0 rfl rfl rfl Tryz.isAgg3 Tryz.sizeOf3 rfl rfl) (fun a hf => ?_)
        refine S.callv hf rfl rfl rfl (call_fn (vs := [.int .i64 xk1.Kind, .int .i64 1, .int .i64 3]) rfl rfl rfl Tryz.call153) (C_ref4_within xk1.Kind 1 3 _ ) (fun a w hf hs' => ?_)
        replace hs := hs.call hs'; clear hs'
        refine S.val hf hs (v := .bool (!(within xk1.Kind 1 3))) rfl rfl rfl (V.pure rfl) (fun a hf => ?_)
        refine S.val hf hs (v := .bool (!(within xk1.Kind 1 3))) rfl rfl rfl (V.pure rfl) (fun a hf => ?_)
        refine R.nil ?_
        refine X.then_ ?_
        refine C.cond hf (b := !(within xk1.Kind 1 3)) rfl (fun hc => ?_) (fun hc => ?_)
        · replace h := h.1 hc
          refine wp_seq ?_
          refine R.list ?_
          refine S.val hf hs (v := .int .i64 4) rfl rfl rfl (V.pure rfl) (fun a hf => ?_)
          refine R.nil ?_
          refine X.then_ ?_
          refine wp_ret ?_
          refine X.blk_ret ?_
          refine X.blk_ret ?_
          refine X.then_ret ?_
          refine X.then_ret ?_
          refine X.blk_ret ?_
          refine X.then_ret ?_
          exact L.ret hf (run_results1 Tryz.results93 (ResIs.tmp hf rfl)) ⟨4, rfl, h, hs.nil⟩
        · replace h := h.2 hc
          refine wp_seq ?_
          refine C.cut (J := fun a w => ∃ (c1 : Bool), M_ref4_CheckMaterials_k2 m Q k1 xk1 next1 c1 ∧ FrOk 51 [(0, .slice mA m.length mC), (3, .int .i64 (k1 : Int)), (4, .pointer (some ⟨g1, 0, none⟩)), (8, .slice mA m.length mC), (9, .int .i64 (m.length : Int)), (10, .int .i64 (k1 : Int)), (25, .bool c1)] a ∧ Sat w0 none_ [hbox g1 29 [.string (ba xk1.Name), .int .i64 xk1.Kind, .int .i64 xk1.Thick, .int .i64 xk1.Grow]] w) ?_ ?_
          · rintro a w ⟨c1, h, hf, hs⟩
            unfold M_ref4_CheckMaterials_k2 at h
            refine C.cond hf (b := c1) rfl (fun hc => ?_) (fun hc => ?_)
            · replace h := h.1 hc
              refine wp_seq ?_
              refine R.list ?_
              refine S.val hf hs (v := .int .i64 1) rfl rfl rfl (V.pure rfl) (fun a hf => ?_)
              refine R.nil ?_
              refine X.then_ ?_
              refine wp_ret ?_
              refine X.blk_ret ?_
              refine X.blk_ret ?_
              refine X.then_ret ?_
              refine X.then_ret ?_
              refine X.blk_ret ?_
              refine X.then_ret ?_
              exact L.ret hf (run_results1 Tryz.results93 (ResIs.tmp hf rfl)) ⟨1, rfl, h, hs.nil⟩
            · replace h := h.2 hc
              refine wp_seq ?_
              refine C.cut (J := fun a w => ∃ (c2 : Bool), M_ref4_CheckMaterials_k3 Q next1 c2 ∧ FrOk 51 [(0, .slice mA m.length mC), (8, .slice mA m.length mC), (9, .int .i64 (m.length : Int)), (10, .int .i64 (k1 : Int)), (36, .bool c2)] a ∧ Sat w0 none_ [hbox g1 29 [.string (ba xk1.Name), .int .i64 xk1.Kind, .int .i64 xk1.Thick, .int .i64 xk1.Grow]] w) ?_ ?_
              · rintro a w ⟨c2, h, hf, hs⟩
                unfold M_ref4_CheckMaterials_k3 at h
                refine C.cond hf (b := c2) rfl (fun hc => ?_) (fun hc => ?_)
                · replace h := h.1 hc
                  refine wp_seq ?_
                  refine R.list ?_
                  refine S.val hf hs (v := .int .i64 8) rfl rfl rfl (V.pure rfl) (fun a hf => ?_)
                  refine R.nil ?_
                  refine X.then_ ?_
                  refine wp_ret ?_
                  refine X.blk_ret ?_
                  refine X.blk_ret ?_
                  refine X.then_ret ?_
                  refine X.then_ret ?_
                  refine X.blk_ret ?_
                  refine X.then_ret ?_
                  exact L.ret hf (run_results1 Tryz.results93 (ResIs.tmp hf rfl)) ⟨8, rfl, h, hs.nil⟩
                · replace h := h.2 hc
                  refine wp_skip ?_
                  refine X.blk ?_
                  refine X.blk ?_
                  refine X.then_ ?_
                  refine R.list ?_
                  refine S.val hf hs (v := .int .i64 ((k1 + 1 : Nat) : Int)) rfl rfl rfl (V.incr rfl rfl rfl hltk1 hlenk1) (fun a hf => ?_)
                  refine S.val hf hs (v := .int .i64 ((k1 + 1 : Nat) : Int)) rfl rfl rfl (V.pure rfl) (fun a hf => ?_)
                  refine R.nil ?_
                  refine X.then_ ?_
                  exact ⟨xk1, llk1, rfl, k1 + 1, range_drop hlk1, range_len hkk1, (by rw [hnext1] at h; exact h), ((((hf.nil.cons (hf.get 9 _ rfl)).cons (hf.get 8 _ rfl)).cons (hf.get 0 _ rfl)).cons (hf.get 10 _ rfl)), hs.drop⟩
              · skip
                refine R.draw mo (by kernel_rfl) hs ?_
                refine D.val hf (v := .int .i64 (k1 : Int)) rfl rfl rfl (V.pure rfl) (fun a hf => ?_)
                refine D.val hf (v := .bool (decide ((k1 : Int) > 0))) rfl rfl rfl (V.pure rfl) (fun a hf => ?_)
                refine D.split hf (b := decide ((k1 : Int) > 0)) rfl rfl rfl (V.pure rfl) (fun hc a hf => ?_) (fun hc a hf => ?_)
                · replace h := h.1 hc
                  refine D.val hf (v := .pointer (some ⟨g1, 0, none⟩)) rfl rfl rfl (V.fieldBox rfl rfl Tryz.runUnderlying29 rfl Tryz.sizeOf9 rfl rfl) (fun a hf => ?_)
                  refine D.val hf (v := .string (ba xk1.Name)) rfl rfl rfl (V.loadBox 0 rfl rfl rfl Tryz.isAgg9 Tryz.sizeOf9 rfl rfl) (fun a hf => ?_)
                  refine D.val hf (v := .slice mA m.length mC) rfl rfl rfl (V.pure rfl) (fun a hf => ?_)
                  refine D.val hf (v := .int .i64 (k1 : Int)) rfl rfl rfl (V.pure rfl) (fun a hf => ?_)
                  refine D.val hf (v := .int .i64 (w64 ((k1 : Int) - 1))) rfl rfl rfl (V.pure rfl) (fun a hf => ?_)
                  obtain ⟨h0x1, x1, hx1, h⟩ := h
                  refine D.val hf (v := elemPtr mA ((w64 ((k1 : Int) - 1)).toNat * 4)) rfl rfl rfl (V.index rfl rfl rfl Tryz.runUnderlying22 Tryz.sizeOf29 (hv_m.some_ (lt_of_get hx1)) h0x1 (lt_of_get hx1) rfl) (fun a hf => ?_)
                  refine D.val hf (v := elemPtr mA ((w64 ((k1 : Int) - 1)).toNat * 4)) rfl rfl rfl (V.fieldEl rfl rfl (hv_m.some_ (lt_of_get hx1)) Tryz.runUnderlying29 rfl Tryz.sizeOf9 rfl rfl) (fun a hf => ?_)
                  refine D.val hf (v := .string (ba x1.Name)) rfl rfl rfl (V.loadEl (off := 0) (Ag.args _ _ _) (hv_m.flat hx1) rfl rfl rfl Tryz.isAgg9 Tryz.sizeOf9 rfl rfl) (fun a hf => ?_)
                  refine D.val hf (v := .bool (strLt xk1.Name x1.Name || xk1.Name == x1.Name)) rfl rfl rfl (V.strCmp (strLt xk1.Name x1.Name || xk1.Name == x1.Name) rfl rfl rfl rfl) (fun a hf => ?_)
                  refine D.val hf (v := .bool (strLt xk1.Name x1.Name || xk1.Name == x1.Name)) rfl rfl rfl (V.pure rfl) (fun a hf => ?_)
                  refine D.val hf (v := .bool (strLt xk1.Name x1.Name || xk1.Name == x1.Name)) rfl rfl rfl (V.pure rfl) (fun a hf => ?_)
                  refine D.done (fun w hs => ?_)
                  refine X.then_ ?_
                  exact ⟨(strLt xk1.Name x1.Name || xk1.Name == x1.Name), h, (((((hf.nil.cons (hf.get 36 _ rfl)).cons (hf.get 10 _ rfl)).cons (hf.get 9 _ rfl)).cons (hf.get 8 _ rfl)).cons (hf.get 0 _ rfl)), hs⟩
                · replace h := h.2 hc
                  refine D.skip hf rfl rfl rfl (fun a hf => ?_)
                  refine D.skip hf rfl rfl rfl (fun a hf => ?_)
                  refine D.skip hf rfl rfl rfl (fun a hf => ?_)
                  refine D.skip hf rfl rfl rfl (fun a hf => ?_)
                  refine D.skip hf rfl rfl rfl (fun a hf => ?_)
                  refine D.skip hf rfl rfl rfl (fun a hf => ?_)
                  refine D.skip hf rfl rfl rfl (fun a hf => ?_)
                  refine D.skip hf rfl rfl rfl (fun a hf => ?_)
                  refine D.skip hf rfl rfl rfl (fun a hf => ?_)
                  refine D.val hf (v := .bool false) rfl rfl rfl (V.pure rfl) (fun a hf => ?_)
                  refine D.val hf (v := .bool false) rfl rfl rfl (V.pure rfl) (fun a hf => ?_)
                  refine D.done (fun w hs => ?_)
                  refine X.then_ ?_
                  exact ⟨false, h, (((((hf.nil.cons (hf.get 36 _ rfl)).cons (hf.get 10 _ rfl)).cons (hf.get 9 _ rfl)).cons (hf.get 8 _ rfl)).cons (hf.get 0 _ rfl)), hs⟩
          · skip
            refine R.list ?_
            refine S.val hf hs (v := .pointer (some ⟨g1, 2, none⟩)) rfl rfl rfl (V.fieldBox rfl rfl Tryz.runUnderlying29 rfl Tryz.sizeOf3 rfl rfl) (fun a hf => ?_)
            refine S.val hf hs (v := .int .i64 xk1.Thick) rfl rfl rfl (V.loadBox 0 rfl rfl rfl Tryz.isAgg3 Tryz.sizeOf3 rfl rfl) (fun a hf => ?_)
            refine S.callv hf rfl rfl rfl (call_fn (vs := [.int .i64 xk1.Thick, .int .i64 1, .int .i64 2000]) rfl rfl rfl Tryz.call153) (C_ref4_within xk1.Thick 1 2000 _ ) (fun a w hf hs' => ?_)
            replace hs := hs.call hs'; clear hs'
            refine S.val hf hs (v := .bool (!(within xk1.Thick 1 2000))) rfl rfl rfl (V.pure rfl) (fun a hf => ?_)
            refine S.split hf hs (b := !(within xk1.Thick 1 2000)) rfl rfl rfl (V.pure rfl) (fun hc a hf => ?_) (fun hc a hf => ?_)
            · replace h := h.1 hc
              refine S.skip hf rfl rfl rfl (fun a hf => ?_)
              refine S.skip hf rfl rfl rfl (fun a hf => ?_)
              refine S.skip hf rfl rfl rfl (fun a hf => ?_)
              refine S.skip hf rfl rfl rfl (fun a hf => ?_)
              refine S.val hf hs (v := .bool true) rfl rfl rfl (V.pure rfl) (fun a hf => ?_)
              refine S.val hf hs (v := .bool true) rfl rfl rfl (V.pure rfl) (fun a hf => ?_)
              refine R.nil ?_
              refine X.then_ ?_
              exact ⟨true, h, (((((((hf.nil.cons (hf.get 25 _ rfl)).cons (hf.get 10 _ rfl)).cons (hf.get 9 _ rfl)).cons (hf.get 8 _ rfl)).cons (hf.get 4 _ rfl)).cons (hf.get 3 _ rfl)).cons (hf.get 0 _ rfl)), hs⟩
            · replace h := h.2 hc
              refine S.val hf hs (v := .pointer (some ⟨g1, 3, none⟩)) rfl rfl rfl (V.fieldBox rfl rfl Tryz.runUnderlying29 rfl Tryz.sizeOf3 rfl rfl) (fun a hf => ?_)
              refine S.val hf hs (v := .int .i64 xk1.Grow) rfl rfl rfl (V.loadBox 0 rfl rfl rfl Tryz.isAgg3 Tryz.sizeOf3 rfl rfl) (fun a hf => ?_)
              refine S.callv hf rfl rfl rfl (call_fn (vs := [.int .i64 xk1.Grow, .int .i64 0, .int .i64 1000]) rfl rfl rfl Tryz.call153) (C_ref4_within xk1.Grow 0 1000 _ ) (fun a w hf hs' => ?_)
              replace hs := hs.call hs'; clear hs'
              refine S.val hf hs (v := .bool (!(within xk1.Grow 0 1000))) rfl rfl rfl (V.pure rfl) (fun a hf => ?_)
              refine S.val hf hs (v := .bool (!(within xk1.Grow 0 1000))) rfl rfl rfl (V.pure rfl) (fun a hf => ?_)
              refine S.val hf hs (v := .bool (!(within xk1.Grow 0 1000))) rfl rfl rfl (V.pure rfl) (fun a hf => ?_)
              refine R.nil ?_
              refine X.then_ ?_
              exact ⟨(!(within xk1.Grow 0 1000)), h, (((((((hf.nil.cons (hf.get 25 _ rfl)).cons (hf.get 10 _ rfl)).cons (hf.get 9 _ rfl)).cons (hf.get 8 _ rfl)).cons (hf.get 4 _ rfl)).cons (hf.get 3 _ rfl)).cons (hf.get 0 _ rfl)), hs⟩

set_option linter.unusedVariables false
def M_materialOf1 (x_ : Material) (s_ : Str) (Q : Int → Prop) : Prop :=
  Q (cmpStr x_.Name s_)
set_option maxHeartbeats 1000000 in
theorem R_materialOf1 (x_ : Material) (s_ : Str) (w0 : World)  (Q : Int → Prop) (h : M_materialOf1 x_ s_ Q) :
    Ret Tryz.prog 146 #[.agg #[.string (ba x_.Name), .int .i64 x_.Kind, .int .i64 x_.Thick, .int .i64 x_.Grow], .string (ba s_)] w0 fun v w' => ∃ (r0 : Int), v = .int .i64 r0 ∧ Q r0 ∧ Sat w0 none_ [] w' := by
  refine fn_enter Tryz.func146 rfl Tryz.ntmps146 rfl (fs := [(0, .agg #[.string (ba x_.Name), .int .i64 x_.Kind, .int .i64 x_.Thick, .int .i64 x_.Grow]), (1, .string (ba s_))]) rfl (fun a hf => ?_)
  have hs := Sat.start w0 none_
  unfold M_materialOf1 at h
  refine wp_seq ?_
  refine R.list ?_
  refine S.box hf hs rfl rfl rfl [.string (ba x_.Name), .int .i64 x_.Kind, .int .i64 x_.Thick, .int .i64 x_.Grow] rfl rfl rfl (fun g1 a w hf hs => ?_)
  refine S.val hf hs (v := .int .i64 0) rfl rfl rfl (V.pure rfl) (fun a hf => ?_)
  refine R.nil ?_
  refine X.then_ ?_
  refine wp_seq ?_
  refine R.list ?_
  refine S.val hf hs (v := .pointer (some ⟨g1, 0, none⟩)) rfl rfl rfl (V.fieldBox rfl rfl Tryz.runUnderlying29 rfl Tryz.sizeOf9 rfl rfl) (fun a hf => ?_)
  refine S.val hf hs (v := .string (ba x_.Name)) rfl rfl rfl (V.loadBox 0 rfl rfl rfl Tryz.isAgg9 Tryz.sizeOf9 rfl rfl) (fun a hf => ?_)
  refine S.val hf hs (v := .string (ba s_)) rfl rfl rfl (V.pure rfl) (fun a hf => ?_)
  refine S.callv hf rfl rfl rfl (call_fn (vs := [.string (ba x_.Name), .string (ba s_)]) rfl rfl rfl Tryz.call147) (C_strings_Compare x_.Name s_ _ ) (fun a w hf hs' => ?_)
  replace hs := hs.call hs'; clear hs'
  refine S.val hf hs (v := .int .i64 (cmpStr x_.Name s_)) rfl rfl rfl (V.pure rfl) (fun a hf => ?_)
  refine R.nil ?_
  refine X.then_ ?_
  refine wp_ret ?_
  exact L.ret hf (run_results1 Tryz.results146 (ResIs.tmp hf rfl)) ⟨(cmpStr x_.Name s_), rfl, h, hs.nil⟩

set_option linter.unusedVariables false
def M_search_mat_L1 (x_ : (List Material)) (target : Str) (Q : Int → Bool → Prop) (again1 : Int → Int → Prop) (n3 : Int) (n4 : Int) : Prop :=
  cnd (decide (n3 < n4)) (idx x_ (cvt .i64 (shrI .u64 (cvt .u64 (w64 (n3 + n4))) 1)) fun x1 => M_materialOf1 x1 target fun y1 => cnd (decide (y1 < 0)) (again1 (w64 ((cvt .i64 (shrI .u64 (cvt .u64 (w64 (n3 + n4))) 1)) + 1)) n4) (again1 n3 (cvt .i64 (shrI .u64 (cvt .u64 (w64 (n3 + n4))) 1)))) (cnd (decide (n3 < (x_.length : Int))) (idx x_ n3 fun x2 => M_materialOf1 x2 target fun y2 => Q n3 (y2 == 0)) (Q n3 false))
def M_search_mat (x_ : (List Material)) (target : Str) (Q : Int → Bool → Prop) : Prop :=
  lp (fun again (s : Int × Int) => M_search_mat_L1 x_ target Q (fun n3 n4 => again (n3, n4)) s.1 s.2) (0, (x_.length : Int))
set_option maxHeartbeats 1000000 in
theorem R_search_mat (x_ : (List Material)) (target : Str) (w0 : World) (x_A : Option Addr) (x_C : Nat) (hv_x_ : View w0 (old w0 none_) x_A x_C x_) (Q : Int → Bool → Prop) (h : M_search_mat x_ target Q) :
    Ret Tryz.prog 145 #[.slice x_A x_.length x_C, .string (ba target), .func (.func 146) #[] #[]] w0 fun v w' => ∃ (r0 : Int) (r1 : Bool), v = .tuple #[.int .i64 r0, .bool r1] ∧ Q r0 r1 ∧ Sat w0 none_ [] w' := by
  refine fn_enter Tryz.func145 rfl Tryz.ntmps145 rfl (fs := [(0, .slice x_A x_.length x_C), (1, .string (ba target)), (2, .func (.func 146) #[] #[])]) rfl (fun a hf => ?_)
  have hs := Sat.start w0 none_
  unfold M_search_mat at h
  refine wp_seq ?_
  refine R.list ?_
  refine S.val hf hs (v := .int .i64 0) rfl rfl rfl (V.pure rfl) (fun a hf => ?_)
  refine S.val hf hs (v := .bool false) rfl rfl rfl (V.pure rfl) (fun a hf => ?_)
  refine R.nil ?_
  refine X.then_ ?_
  refine wp_seq ?_
  refine R.list ?_
  refine S.val hf hs (v := .slice x_A x_.length x_C) rfl rfl rfl (V.pure rfl) (fun a hf => ?_)
  refine S.val hf hs (v := .int .i64 (x_.length : Int)) rfl rfl rfl (V.len rfl rfl Tryz.runUnderlying22) (fun a hf => ?_)
  refine S.val hf hs (v := .int .i64 (x_.length : Int)) rfl rfl rfl (V.pure rfl) (fun a hf => ?_)
  refine R.nil ?_
  refine X.then_ ?_
  refine wp_seq ?_
  refine R.list ?_
  refine S.val hf hs (v := .int .i64 (x_.length : Int)) rfl rfl rfl (V.pure rfl) (fun a hf => ?_)
  refine S.val hf hs (v := .int .i64 0) rfl rfl rfl (V.pure rfl) (fun a hf => ?_)
  refine S.val hf hs (v := .int .i64 (x_.length : Int)) rfl rfl rfl (V.pure rfl) (fun a hf => ?_)
  refine R.nil ?_
  refine X.then_ ?_
  refine wp_seq ?_
  refine wp_block ?_
  obtain ⟨kk, h⟩ := h
  refine C.loop (fun kk a w => ∃ (n3 : Int) (n4 : Int), iterF (fun again (s : Int × Int) => M_search_mat_L1 x_ target Q (fun n3 n4 => again (n3, n4)) s.1 s.2) kk (n3, n4) ∧ FrOk 49 [(0, .slice x_A x_.length x_C), (1, .string (ba target)), (2, .func (.func 146) #[] #[]), (8, .int .i64 (x_.length : Int)), (9, .int .i64 n3), (10, .int .i64 n4)] a ∧ Sat w0 none_ [] w) kk ⟨0, (x_.length : Int), h, ((((((hf.nil.cons (hf.get 10 _ rfl)).cons (hf.get 9 _ rfl)).cons (hf.get 8 _ rfl)).cons (hf.get 2 _ rfl)).cons (hf.get 1 _ rfl)).cons (hf.get 0 _ rfl)), hs⟩ (fun a w ⟨_, _, h, _, _⟩ => h) ?_
  clear h hf hs
  rintro kk a w ⟨n3, n4, h, hf, hs⟩
  obtain ⟨again1, hagain1⟩ : ∃ X : Int → Int → Prop, X = (fun n3 n4 => iterF (fun again (s : Int × Int) => M_search_mat_L1 x_ target Q (fun n3 n4 => again (n3, n4)) s.1 s.2) kk (n3, n4)) := ⟨_, rfl⟩
  replace h : M_search_mat_L1 x_ target Q again1 n3 n4 := by rw [hagain1]; exact h
  unfold M_search_mat_L1 at h
  refine wp_seq ?_
  refine wp_seq ?_
  refine R.list ?_
  refine S.val hf hs (v := .int .i64 n3) rfl rfl rfl (V.pure rfl) (fun a hf => ?_)
  refine S.val hf hs (v := .int .i64 n4) rfl rfl rfl (V.pure rfl) (fun a hf => ?_)
  refine S.val hf hs (v := .bool (decide (n3 < n4))) rfl rfl rfl (V.pure rfl) (fun a hf => ?_)
  refine R.nil ?_
  refine X.then_ ?_
  refine C.cond hf (b := decide (n3 < n4)) rfl (fun hc => ?_) (fun hc => ?_)
  · replace h := h.1 hc
    refine wp_skip ?_
    refine X.then_ ?_
    refine wp_block ?_
    refine wp_seq ?_
    refine R.list ?_
    refine S.val hf hs (v := .int .i64 n3) rfl rfl rfl (V.pure rfl) (fun a hf => ?_)
    refine S.val hf hs (v := .int .i64 n4) rfl rfl rfl (V.pure rfl) (fun a hf => ?_)
    refine S.val hf hs (v := .int .i64 (w64 (n3 + n4))) rfl rfl rfl (V.pure rfl) (fun a hf => ?_)
    refine S.val hf hs (v := .int .u64 (cvt .u64 (w64 (n3 + n4)))) rfl rfl rfl (V.conv rfl rfl Tryz.runUnderlying3 Tryz.runUnderlying220) (fun a hf => ?_)
    refine S.val hf hs (v := .int .u64 (shrI .u64 (cvt .u64 (w64 (n3 + n4))) 1)) rfl rfl rfl (V.shr rfl rfl rfl (by decide)) (fun a hf => ?_)
    refine S.val hf hs (v := .int .i64 (cvt .i64 (shrI .u64 (cvt .u64 (w64 (n3 + n4))) 1))) rfl rfl rfl (V.conv rfl rfl Tryz.runUnderlying220 Tryz.runUnderlying3) (fun a hf => ?_)
    refine S.val hf hs (v := .int .i64 (cvt .i64 (shrI .u64 (cvt .u64 (w64 (n3 + n4))) 1))) rfl rfl rfl (V.pure rfl) (fun a hf => ?_)
    refine R.nil ?_
    refine X.then_ ?_
    refine wp_seq ?_
    refine R.list ?_
    refine S.val hf hs (v := .func (.func 146) #[] #[]) rfl rfl rfl (V.pure rfl) (fun a hf => ?_)
    refine S.val hf hs (v := .slice x_A x_.length x_C) rfl rfl rfl (V.pure rfl) (fun a hf => ?_)
    refine S.val hf hs (v := .int .i64 (cvt .i64 (shrI .u64 (cvt .u64 (w64 (n3 + n4))) 1))) rfl rfl rfl (V.pure rfl) (fun a hf => ?_)
    obtain ⟨h0x1, x1, hx1, h⟩ := h
    refine S.val hf hs (v := elemPtr x_A ((cvt .i64 (shrI .u64 (cvt .u64 (w64 (n3 + n4))) 1)).toNat * 4)) rfl rfl rfl (V.index rfl rfl rfl Tryz.runUnderlying22 Tryz.sizeOf29 (hv_x_.some_ (lt_of_get hx1)) h0x1 (lt_of_get hx1) rfl) (fun a hf => ?_)
    refine S.val hf hs (v := .agg #[.string (ba x1.Name), .int .i64 x1.Kind, .int .i64 x1.Thick, .int .i64 x1.Grow]) rfl rfl rfl (V.loadEl (off := 0) (Ag.args _ _ _) (hv_x_.flat hx1) rfl rfl rfl Tryz.isAgg29 Tryz.sizeOf29 rfl rfl) (fun a hf => ?_)
    refine S.val hf hs (v := .string (ba target)) rfl rfl rfl (V.pure rfl) (fun a hf => ?_)
    refine S.call hf rfl rfl rfl (call_fn (vs := [.agg #[.string (ba x1.Name), .int .i64 x1.Kind, .int .i64 x1.Thick, .int .i64 x1.Grow], .string (ba target)]) rfl rfl rfl Tryz.call146) (R_materialOf1 x1 target _  _ h) (fun v a w' hf hr => ?_)
    obtain ⟨y1, rfl, h2, hs2⟩ := hr
    replace h := h2; replace hs := hs.call hs2; clear h2 hs2
    refine S.val hf hs (v := .bool (decide (y1 < 0))) rfl rfl rfl (V.pure rfl) (fun a hf => ?_)
    refine R.nil ?_
    refine X.then_ ?_
    refine C.cond hf (b := decide (y1 < 0)) rfl (fun hc => ?_) (fun hc => ?_)
    · replace h := h.1 hc
      refine R.list ?_
      refine S.val hf hs (v := .int .i64 (cvt .i64 (shrI .u64 (cvt .u64 (w64 (n3 + n4))) 1))) rfl rfl rfl (V.pure rfl) (fun a hf => ?_)
      refine S.val hf hs (v := .int .i64 (w64 ((cvt .i64 (shrI .u64 (cvt .u64 (w64 (n3 + n4))) 1)) + 1))) rfl rfl rfl (V.pure rfl) (fun a hf => ?_)
      refine S.val hf hs (v := .int .i64 (w64 ((cvt .i64 (shrI .u64 (cvt .u64 (w64 (n3 + n4))) 1)) + 1))) rfl rfl rfl (V.pure rfl) (fun a hf => ?_)
      refine R.nil ?_
      refine X.blk ?_
      refine X.then_ ?_
      exact ⟨(w64 ((cvt .i64 (shrI .u64 (cvt .u64 (w64 (n3 + n4))) 1)) + 1)), n4, (by rw [hagain1] at h; exact h), ((((((hf.nil.cons (hf.get 10 _ rfl)).cons (hf.get 9 _ rfl)).cons (hf.get 8 _ rfl)).cons (hf.get 2 _ rfl)).cons (hf.get 1 _ rfl)).cons (hf.get 0 _ rfl)), hs⟩
    · replace h := h.2 hc
      refine R.list ?_
      refine S.val hf hs (v := .int .i64 (cvt .i64 (shrI .u64 (cvt .u64 (w64 (n3 + n4))) 1))) rfl rfl rfl (V.pure rfl) (fun a hf => ?_)
      refine S.val hf hs (v := .int .i64 (cvt .i64 (shrI .u64 (cvt .u64 (w64 (n3 + n4))) 1))) rfl rfl rfl (V.pure rfl) (fun a hf => ?_)
      refine R.nil ?_
      refine X.blk ?_
      refine X.then_ ?_
      exact ⟨n3, (cvt .i64 (shrI .u64 (cvt .u64 (w64 (n3 + n4))) 1)), (by rw [hagain1] at h; exact h), ((((((hf.nil.cons (hf.get 10 _ rfl)).cons (hf.get 9 _ rfl)).cons (hf.get 8 _ rfl)).cons (hf.get 2 _ rfl)).cons (hf.get 1 _ rfl)).cons (hf.get 0 _ rfl)), hs⟩
  · replace h := h.2 hc
    refine wp_exit ?_
    refine X.then_exit ?_
    refine X.then_exit ?_
    refine X.blk_exit ?_
    refine X.then_ ?_
    refine wp_seq ?_
    refine R.list ?_
    refine S.val hf hs (v := .int .i64 n3) rfl rfl rfl (V.pure rfl) (fun a hf => ?_)
    refine S.val hf hs (v := .int .i64 n3) rfl rfl rfl (V.pure rfl) (fun a hf => ?_)
    refine S.val hf hs (v := .int .i64 (x_.length : Int)) rfl rfl rfl (V.pure rfl) (fun a hf => ?_)
    refine S.val hf hs (v := .bool (decide (n3 < (x_.length : Int)))) rfl rfl rfl (V.pure rfl) (fun a hf => ?_)
    refine S.split hf hs (b := decide (n3 < (x_.length : Int))) rfl rfl rfl (V.pure rfl) (fun hc a hf => ?_) (fun hc a hf => ?_)
    · replace h := h.1 hc
      refine S.val hf hs (v := .func (.func 146) #[] #[]) rfl rfl rfl (V.pure rfl) (fun a hf => ?_)
      refine S.val hf hs (v := .slice x_A x_.length x_C) rfl rfl rfl (V.pure rfl) (fun a hf => ?_)
      refine S.val hf hs (v := .int .i64 n3) rfl rfl rfl (V.pure rfl) (fun a hf => ?_)
      obtain ⟨h0x2, x2, hx2, h⟩ := h
      refine S.val hf hs (v := elemPtr x_A (n3.toNat * 4)) rfl rfl rfl (V.index rfl rfl rfl Tryz.runUnderlying22 Tryz.sizeOf29 (hv_x_.some_ (lt_of_get hx2)) h0x2 (lt_of_get hx2) rfl) (fun a hf => ?_)
      refine S.val hf hs (v := .agg #[.string (ba x2.Name), .int .i64 x2.Kind, .int .i64 x2.Thick, .int .i64 x2.Grow]) rfl rfl rfl (V.loadEl (off := 0) (Ag.args _ _ _) (hv_x_.flat hx2) rfl rfl rfl Tryz.isAgg29 Tryz.sizeOf29 rfl rfl) (fun a hf => ?_)
      refine S.val hf hs (v := .string (ba target)) rfl rfl rfl (V.pure rfl) (fun a hf => ?_)
      refine S.call hf rfl rfl rfl (call_fn (vs := [.agg #[.string (ba x2.Name), .int .i64 x2.Kind, .int .i64 x2.Thick, .int .i64 x2.Grow], .string (ba target)]) rfl rfl rfl Tryz.call146) (R_materialOf1 x2 target _  _ h) (fun v a w' hf hr => ?_)
      obtain ⟨y2, rfl, h2, hs2⟩ := hr
      replace h := h2; replace hs := hs.call hs2; clear h2 hs2
      refine S.val hf hs (v := .bool (y2 == 0)) rfl rfl rfl (V.pure rfl) (fun a hf => ?_)
      refine S.val hf hs (v := .bool (y2 == 0)) rfl rfl rfl (V.pure rfl) (fun a hf => ?_)
      refine S.val hf hs (v := .int .i64 n3) rfl rfl rfl (V.pure rfl) (fun a hf => ?_)
      refine S.val hf hs (v := .bool (y2 == 0)) rfl rfl rfl (V.pure rfl) (fun a hf => ?_)
      refine R.nil ?_
      refine X.then_ ?_
      refine wp_ret ?_
      exact L.ret hf (run_results2 Tryz.results145 (ResIs.tmp hf rfl) (ResIs.tmp hf rfl)) ⟨n3, (y2 == 0), rfl, h, hs.nil⟩
    · replace h := h.2 hc
      refine S.skip hf rfl rfl rfl (fun a hf => ?_)
      refine S.skip hf rfl rfl rfl (fun a hf => ?_)
      refine S.skip hf rfl rfl rfl (fun a hf => ?_)
      refine S.skip hf rfl rfl rfl (fun a hf => ?_)
      refine S.skip hf rfl rfl rfl (fun a hf => ?_)
      refine S.skip hf rfl rfl rfl (fun a hf => ?_)
      refine S.skip hf rfl rfl rfl (fun a hf => ?_)
      refine S.skip hf rfl rfl rfl (fun a hf => ?_)
      refine S.val hf hs (v := .bool false) rfl rfl rfl (V.pure rfl) (fun a hf => ?_)
      refine S.val hf hs (v := .int .i64 n3) rfl rfl rfl (V.pure rfl) (fun a hf => ?_)
      refine S.val hf hs (v := .bool false) rfl rfl rfl (V.pure rfl) (fun a hf => ?_)
      refine R.nil ?_
      refine X.then_ ?_
      refine wp_ret ?_
      exact L.ret hf (run_results2 Tryz.results145 (ResIs.tmp hf rfl) (ResIs.tmp hf rfl)) ⟨n3, false, rfl, h, hs.nil⟩

set_option linter.unusedVariables false
def M_stack_materialOf (m : (List Material)) (name : Str) (Q : Material → Bool → Prop) : Prop :=
  M_search_mat m name fun y1 y2 => cnd (!y2) (Q (⟨[], 0, 0, 0⟩ : Material) false) (idx m y1 fun x1 => Q x1 true)
set_option maxHeartbeats 1000000 in
theorem R_stack_materialOf (m : (List Material)) (name : Str) (w0 : World) (mA : Option Addr) (mC : Nat) (hv_m : View w0 (old w0 none_) mA mC m) (Q : Material → Bool → Prop) (h : M_stack_materialOf m name Q) :
    Ret Tryz.prog 86 #[.slice mA m.length mC, .string (ba name)] w0 fun v w' => ∃ (r0 : Material) (r1 : Bool), v = .tuple #[.agg #[.string (ba r0.Name), .int .i64 r0.Kind, .int .i64 r0.Thick, .int .i64 r0.Grow], .bool r1] ∧ Q r0 r1 ∧ Sat w0 none_ [] w' := by
  refine fn_enter Tryz.func86 rfl Tryz.ntmps86 rfl (fs := [(0, .slice mA m.length mC), (1, .string (ba name))]) rfl (fun a hf => ?_)
  have hs := Sat.start w0 none_
  unfold M_stack_materialOf at h
  refine wp_seq ?_
  refine R.list ?_
  refine S.alloc hf hs rfl rfl rfl [.string (ba []), .int .i64 0, .int .i64 0, .int .i64 0] rfl Tryz.zeroValue29 rfl (fun g1 a w hf hs => ?_)
  refine S.val hf hs (v := .bool false) rfl rfl rfl (V.pure rfl) (fun a hf => ?_)
  refine R.nil ?_
  refine X.then_ ?_
  refine wp_seq ?_
  refine R.list ?_
  refine S.val hf hs (v := .slice mA m.length mC) rfl rfl rfl (V.pure rfl) (fun a hf => ?_)
  refine S.val hf hs (v := .string (ba name)) rfl rfl rfl (V.pure rfl) (fun a hf => ?_)
  refine S.call hf rfl rfl rfl (call_fn (vs := [.slice mA m.length mC, .string (ba name), .func (.func 146) #[] #[]]) rfl rfl rfl Tryz.call145) (R_search_mat m name _ mA mC ((Ag.args _ _ _).view hv_m hs) _ h) (fun v a w' hf hr => ?_)
  obtain ⟨y1, y2, rfl, h2, hs2⟩ := hr
  replace h := h2; replace hs := hs.call hs2; clear h2 hs2
  refine S.val hf hs (v := .tuple #[.int .i64 y1, .bool y2]) rfl rfl rfl (V.pure rfl) (fun a hf => ?_)
  refine S.val hf hs (v := .int .i64 y1) rfl rfl rfl (V.pure rfl) (fun a hf => ?_)
  refine S.val hf hs (v := .bool y2) rfl rfl rfl (V.pure rfl) (fun a hf => ?_)
  refine S.val hf hs (v := .int .i64 y1) rfl rfl rfl (V.pure rfl) (fun a hf => ?_)
  refine S.val hf hs (v := .bool y2) rfl rfl rfl (V.pure rfl) (fun a hf => ?_)
  refine R.nil ?_
  refine X.then_ ?_
  refine wp_seq ?_
  refine wp_seq ?_
  refine R.list ?_
  refine S.val hf hs (v := .bool y2) rfl rfl rfl (V.pure rfl) (fun a hf => ?_)
  refine S.val hf hs (v := .bool (!y2)) rfl rfl rfl (V.pure rfl) (fun a hf => ?_)
  refine R.nil ?_
  refine X.then_ ?_
  refine C.cond hf (b := !y2) rfl (fun hc => ?_) (fun hc => ?_)
  · replace h := h.1 hc
    refine wp_seq ?_
    refine R.list ?_
    refine S.val hf hs (v := .agg #[.string (ba []), .int .i64 0, .int .i64 0, .int .i64 0]) rfl rfl rfl (V.build (places := #[(0, 1), (1, 1), (2, 1), (3, 1)]) rfl Tryz.zeroValue29 Tryz.runUnderlying29 (by intro w; simp [Tryz.sizeOf3, Tryz.sizeOf9]) rfl rfl) (fun a hf => ?_)
    refine S.storeBox 0 hf hs rfl rfl [.string (ba []), .int .i64 0, .int .i64 0, .int .i64 0] [.string (ba []), .int .i64 0, .int .i64 0, .int .i64 0] rfl rfl rfl rfl rfl Tryz.sizeOf29 rfl rfl rfl rfl (fun a w hf hs => ?_)
    refine S.val hf hs (v := .bool false) rfl rfl rfl (V.pure rfl) (fun a hf => ?_)
    refine R.nil ?_
    refine X.then_ ?_
    refine wp_ret ?_
    refine X.then_ret ?_
    exact L.ret hf (run_results2 Tryz.results86 (ResIs.box hf hs 0 rfl rfl Tryz.isAgg29 Tryz.sizeOf29 rfl rfl) (ResIs.tmp hf rfl)) ⟨(⟨[], 0, 0, 0⟩ : Material), false, rfl, h, hs.nil⟩
  · replace h := h.2 hc
    refine wp_skip ?_
    refine X.then_ ?_
    refine wp_seq ?_
    refine R.list ?_
    refine S.val hf hs (v := .slice mA m.length mC) rfl rfl rfl (V.pure rfl) (fun a hf => ?_)
    refine S.val hf hs (v := .int .i64 y1) rfl rfl rfl (V.pure rfl) (fun a hf => ?_)
    obtain ⟨h0x1, x1, hx1, h⟩ := h
    refine S.val hf hs (v := elemPtr mA (y1.toNat * 4)) rfl rfl rfl (V.index rfl rfl rfl Tryz.runUnderlying22 Tryz.sizeOf29 (hv_m.some_ (lt_of_get hx1)) h0x1 (lt_of_get hx1) rfl) (fun a hf => ?_)
    refine S.val hf hs (v := .agg #[.string (ba x1.Name), .int .i64 x1.Kind, .int .i64 x1.Thick, .int .i64 x1.Grow]) rfl rfl rfl (V.loadEl (off := 0) (Ag.args _ _ _) (hv_m.flat hx1) rfl rfl rfl Tryz.isAgg29 Tryz.sizeOf29 rfl rfl) (fun a hf => ?_)
    refine S.storeBox 0 hf hs rfl rfl [.string (ba x1.Name), .int .i64 x1.Kind, .int .i64 x1.Thick, .int .i64 x1.Grow] [.string (ba x1.Name), .int .i64 x1.Kind, .int .i64 x1.Thick, .int .i64 x1.Grow] rfl rfl rfl rfl rfl Tryz.sizeOf29 rfl rfl rfl rfl (fun a w hf hs => ?_)
    refine S.val hf hs (v := .bool true) rfl rfl rfl (V.pure rfl) (fun a hf => ?_)
    refine R.nil ?_
    refine X.then_ ?_
    refine wp_ret ?_
    exact L.ret hf (run_results2 Tryz.results86 (ResIs.box hf hs 0 rfl rfl Tryz.isAgg29 Tryz.sizeOf29 rfl rfl) (ResIs.tmp hf rfl)) ⟨x1, true, rfl, h, hs.nil⟩

set_option linter.unusedVariables false
def M_ref4_materialOf_L1 (name : Str) (Q : Material → Prop) (k1 : Nat) (xk1 : Material)  (next1 : Prop) : Prop :=
  cnd (xk1.Name == name) (Q xk1) (next1)
def M_ref4_materialOf (m : (List Material)) (name : Str) (Q : Material → Prop) : Prop :=
  forIn' (fun k x (s : Unit) next => M_ref4_materialOf_L1 name Q k x (next ())) (fun (s : Unit) => Q (⟨[], 0, 0, 0⟩ : Material)) m 0 ()
set_option maxHeartbeats 1000000 in
theorem R_ref4_materialOf (m : (List Material)) (name : Str) (w0 : World) (mA : Option Addr) (mC : Nat) (hv_m : View w0 (old w0 none_) mA mC m) (Q : Material → Prop) (h : M_ref4_materialOf m name Q) :
    Ret Tryz.prog 154 #[.slice mA m.length mC, .string (ba name)] w0 fun v w' => ∃ (r0 : Material), v = .agg #[.string (ba r0.Name), .int .i64 r0.Kind, .int .i64 r0.Thick, .int .i64 r0.Grow] ∧ Q r0 ∧ Sat w0 none_ [] w' := by
  refine fn_enter Tryz.func154 rfl Tryz.ntmps154 rfl (fs := [(0, .slice mA m.length mC), (1, .string (ba name))]) rfl (fun a hf => ?_)
  have hs := Sat.start w0 none_
  unfold M_ref4_materialOf at h
  refine wp_seq ?_
  refine R.list ?_
  refine S.alloc hf hs rfl rfl rfl [.string (ba []), .int .i64 0, .int .i64 0, .int .i64 0] rfl Tryz.zeroValue29 rfl (fun g1 a w hf hs => ?_)
  refine R.nil ?_
  refine X.then_ ?_
  refine wp_seq ?_
  refine wp_seq ?_
  refine R.list ?_
  refine S.val hf hs (v := .slice mA m.length mC) rfl rfl rfl (V.pure rfl) (fun a hf => ?_)
  refine S.val hf hs (v := .int .i64 (m.length : Int)) rfl rfl rfl (V.len rfl rfl Tryz.runUnderlying22) (fun a hf => ?_)
  refine S.val hf hs (v := .int .i64 0) rfl rfl rfl (V.pure rfl) (fun a hf => ?_)
  refine R.nil ?_
  refine X.then_ ?_
  refine wp_block ?_
  have hlenk1 := hv_m.len64
  refine C.range (fun (ll : List Material) a w => ∃ (k1 : Nat) , m.drop k1 = ll ∧ k1 + ll.length = m.length ∧ forIn' (fun k x (s : Unit) next => M_ref4_materialOf_L1 name Q k x (next ())) (fun (s : Unit) => Q (⟨[], 0, 0, 0⟩ : Material)) ll k1 () ∧ FrOk 20 [(9, .int .i64 (k1 : Int)), (1, .string (ba name)), (4, .pointer (some ⟨g1, 0, none⟩)), (7, .slice mA m.length mC), (8, .int .i64 (m.length : Int))] a ∧ Sat w0 none_ [hbox g1 29 [.string (ba []), .int .i64 0, .int .i64 0, .int .i64 0]] w) m ⟨0, rfl, Nat.zero_add _, h, (((((hf.nil.cons (hf.get 8 _ rfl)).cons (hf.get 7 _ rfl)).cons (hf.get 4 _ rfl)).cons (hf.get 1 _ rfl)).cons (hf.get 9 _ rfl)), hs⟩ ?_
  clear h hf hs
  rintro llk1 a w ⟨k1, hlk1, hkk1, h, hf, hs⟩
  cases llk1 with
  | nil =>
    have hc := range_done hkk1
    replace h : Q (⟨[], 0, 0, 0⟩ : Material) := h
    refine wp_seq ?_
    refine R.list ?_
    refine S.val hf hs (v := .bool false) rfl rfl rfl (V.cmp false rfl rfl rfl rfl hc) (fun a hf => ?_)
    refine R.nil ?_
    refine X.then_ ?_
    refine wp_seq ?_
    refine C.no hf rfl ?_
    refine wp_exit ?_
    refine X.then_exit ?_
    refine X.then_exit ?_
    refine X.blk_exit ?_
    refine X.then_ ?_
    refine wp_seq ?_
    refine R.list ?_
    refine S.val hf hs (v := .agg #[.string (ba []), .int .i64 0, .int .i64 0, .int .i64 0]) rfl rfl rfl (V.build (places := #[(0, 1), (1, 1), (2, 1), (3, 1)]) rfl Tryz.zeroValue29 Tryz.runUnderlying29 (by intro w; simp [Tryz.sizeOf3, Tryz.sizeOf9]) rfl rfl) (fun a hf => ?_)
    refine S.storeBox 0 hf hs rfl rfl [.string (ba []), .int .i64 0, .int .i64 0, .int .i64 0] [.string (ba []), .int .i64 0, .int .i64 0, .int .i64 0] rfl rfl rfl rfl rfl Tryz.sizeOf29 rfl rfl rfl rfl (fun a w hf hs => ?_)
    refine R.nil ?_
    refine X.then_ ?_
    refine wp_ret ?_
    exact L.ret hf (run_results1 Tryz.results154 (ResIs.box hf hs 0 rfl rfl Tryz.isAgg29 Tryz.sizeOf29 rfl rfl)) ⟨(⟨[], 0, 0, 0⟩ : Material), rfl, h, hs.nil⟩
  | cons xk1 llk1 =>
    have hltk1 := range_lt hkk1; have hc := range_go hkk1; have hxk1 := range_get hlk1
    obtain ⟨next1, hnext1⟩ : ∃ X : Prop, X = (forIn' (fun k x (s : Unit) next => M_ref4_materialOf_L1 name Q k x (next ())) (fun (s : Unit) => Q (⟨[], 0, 0, 0⟩ : Material)) llk1 (k1 + 1) ()) := ⟨_, rfl⟩
    replace h : M_ref4_materialOf_L1 name Q k1 xk1  next1 := by rw [hnext1]; exact h
    unfold M_ref4_materialOf_L1 at h
    refine wp_seq ?_
    refine R.list ?_
    refine S.val hf hs (v := .bool true) rfl rfl rfl (V.cmp true rfl rfl rfl rfl hc) (fun a hf => ?_)
    refine R.nil ?_
    refine X.then_ ?_
    refine wp_seq ?_
    refine C.yes hf rfl ?_
    refine wp_skip ?_
    refine X.then_ ?_
    refine wp_seq ?_
    refine wp_block ?_
    refine wp_seq ?_
    refine R.list ?_
    refine S.val hf hs (v := elemPtr mA (k1 * 4)) rfl rfl rfl (V.index rfl rfl rfl Tryz.runUnderlying22 Tryz.sizeOf29 (hv_m.some_ (lt_of_get hxk1)) (Int.natCast_nonneg _) (lt_of_get hxk1) rfl) (fun a hf => ?_)
    refine S.val hf hs (v := .agg #[.string (ba xk1.Name), .int .i64 xk1.Kind, .int .i64 xk1.Thick, .int .i64 xk1.Grow]) rfl rfl rfl (V.loadEl (off := 0) (Ag.args _ _ _) (hv_m.flat hxk1) rfl rfl rfl Tryz.isAgg29 Tryz.sizeOf29 rfl rfl) (fun a hf => ?_)
    refine S.alloc hf hs rfl rfl rfl [.string (ba []), .int .i64 0, .int .i64 0, .int .i64 0] rfl Tryz.zeroValue29 rfl (fun g2 a w hf hs => ?_)
    refine S.storeBox 0 hf hs rfl rfl [.string (ba xk1.Name), .int .i64 xk1.Kind, .int .i64 xk1.Thick, .int .i64 xk1.Grow] [.string (ba xk1.Name), .int .i64 xk1.Kind, .int .i64 xk1.Thick, .int .i64 xk1.Grow] rfl rfl rfl rfl rfl Tryz.sizeOf29 rfl rfl rfl rfl (fun a w hf hs => ?_)
    refine R.nil ?_
    refine X.then_ ?_
    refine wp_seq ?_
    refine R.list ?_
    refine S.val hf hs (v := .pointer (some ⟨g2, 0, none⟩)) rfl rfl rfl (V.fieldBox rfl rfl Tryz.runUnderlying29 rfl Tryz.sizeOf9 rfl rfl) (fun a hf => ?_)
    refine S.val hf hs (v := .string (ba xk1.Name)) rfl rfl rfl (V.loadBox 0 rfl rfl rfl Tryz.isAgg9 Tryz.sizeOf9 rfl rfl) (fun a hf => ?_)
    refine S.val hf hs (v := .string (ba name)) rfl rfl rfl (V.pure rfl) (fun a hf => ?_)
    refine S.val hf hs (v := .bool (xk1.Name == name)) rfl rfl rfl (V.strCmp (xk1.Name == name) rfl rfl rfl rfl) (fun a hf => ?_)
    refine R.nil ?_
    refine X.then_ ?_
    refine C.cond hf (b := xk1.Name == name) rfl (fun hc => ?_) (fun hc => ?_)
    · replace h := h.1 hc
      refine wp_seq ?_
      refine R.list ?_
      refine S.val hf hs (v := .agg #[.string (ba xk1.Name), .int .i64 xk1.Kind, .int .i64 xk1.Thick, .int .i64 xk1.Grow]) rfl rfl rfl (V.loadBox 0 rfl rfl rfl Tryz.isAgg29 Tryz.sizeOf29 rfl rfl) (fun a hf => ?_)
      refine S.storeBox 1 hf hs rfl rfl [.string (ba xk1.Name), .int .i64 xk1.Kind, .int .i64 xk1.Thick, .int .i64 xk1.Grow] [.string (ba xk1.Name), .int .i64 xk1.Kind, .int .i64 xk1.Thick, .int .i64 xk1.Grow] rfl rfl rfl rfl rfl Tryz.sizeOf29 rfl rfl rfl rfl (fun a w hf hs => ?_)
      refine R.nil ?_
      refine X.then_ ?_
      refine wp_ret ?_
      refine X.blk_ret ?_
      refine X.then_ret ?_
      refine X.then_ret ?_
      refine X.blk_ret ?_
      refine X.then_ret ?_
      exact L.ret hf (run_results1 Tryz.results154 (ResIs.box hf hs 1 rfl rfl Tryz.isAgg29 Tryz.sizeOf29 rfl rfl)) ⟨xk1, rfl, h, hs.nil⟩
    · replace h := h.2 hc
      refine wp_skip ?_
      refine X.blk ?_
      refine X.then_ ?_
      refine R.list ?_
      refine S.val hf hs (v := .int .i64 ((k1 + 1 : Nat) : Int)) rfl rfl rfl (V.incr rfl rfl rfl hltk1 hlenk1) (fun a hf => ?_)
      refine S.val hf hs (v := .int .i64 ((k1 + 1 : Nat) : Int)) rfl rfl rfl (V.pure rfl) (fun a hf => ?_)
      refine R.nil ?_
      refine X.then_ ?_
      exact ⟨xk1, llk1, rfl, k1 + 1, range_drop hlk1, range_len hkk1, (by rw [hnext1] at h; exact h), (((((hf.nil.cons (hf.get 8 _ rfl)).cons (hf.get 7 _ rfl)).cons (hf.get 4 _ rfl)).cons (hf.get 1 _ rfl)).cons (hf.get 9 _ rfl)), hs.drop⟩

end Go.Proofs.YtdnilnmdbgcmoaaGreatDoor

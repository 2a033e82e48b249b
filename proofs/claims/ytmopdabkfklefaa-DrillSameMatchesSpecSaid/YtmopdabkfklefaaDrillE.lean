/- Chapter 8: words, the checks of tools and jobs. -/
import Derived.Test.YtmopdabkfklefaaDrillC
import Derived.Test.YtmopdabkfklefaaWord
namespace Go.Proofs.Ytmopdabkfklefaa
open Go Go.RowKit
set_option linter.unusedVariables false

set_option linter.unusedVariables false
def M_lite_IndexByte (s_ : Str) (c : Int) (Q : Int → Prop) : Prop :=
  Q (byteAt s_ c)
set_option maxHeartbeats 1000000 in
theorem R_lite_IndexByte (s_ : Str) (c : Int) (w0 : World)  (Q : Int → Prop) (h : M_lite_IndexByte s_ c Q) :
    Ret Try.prog 103 #[.string (ba s_), .int .u8 c] w0 fun v w' => ∃ (r0 : Int), v = .int .i64 r0 ∧ Q r0 ∧ Sat w0 none_ [] w' := by
  refine fn_enter Try.func103 rfl Try.ntmps103 rfl (fs := [(0, .string (ba s_)), (1, .int .u8 c)]) rfl (fun a hf => ?_)
  have hs := Sat.start w0 none_
  unfold M_lite_IndexByte at h
  refine wp_seq ?_
  refine R.list ?_
  refine S.val hf hs (v := .int .i64 0) rfl rfl rfl (V.pure rfl) (fun a hf => ?_)
  refine R.nil ?_
  refine X.then_ ?_
  refine wp_seq ?_
  refine R.list ?_
  refine S.val hf hs (v := .string (ba s_)) rfl rfl rfl (V.pure rfl) (fun a hf => ?_)
  refine S.val hf hs (v := .int .u8 c) rfl rfl rfl (V.pure rfl) (fun a hf => ?_)
  refine S.val hf hs (v := .int .i64 (byteAt s_ c)) rfl rfl rfl (V.extern Try.func105 (by kernel_rfl) (by kernel_rfl) (by kernel_rfl) (by kernel_rfl) rfl rfl rfl (run_byteAt _ _)) (fun a hf => ?_)
  refine S.val hf hs (v := .int .i64 (byteAt s_ c)) rfl rfl rfl (V.pure rfl) (fun a hf => ?_)
  refine R.nil ?_
  refine X.then_ ?_
  refine wp_ret ?_
  exact L.ret hf (run_results1 Try.results103 (ResIs.tmp hf rfl)) ⟨(byteAt s_ c), rfl, h, hs.nil⟩

theorem E_lite_IndexByte (s : Str) (c : Int) : M_lite_IndexByte s c (· = byteAt s c) := rfl
theorem C_lite_IndexByte (s_ : Str) (c : Int) (w0 : World)  : Ret Try.prog 103 #[.string (ba s_), .int .u8 c] w0 fun v w' => v = .int .i64 (byteAt s_ c) ∧ Sat w0 none_ [] w' :=
  (R_lite_IndexByte s_ c w0  (· = (byteAt s_ c)) (E_lite_IndexByte s_ c)).mono fun v w' ⟨r0, hv, hr, hs⟩ => ⟨by subst hr; exact hv, hs⟩

set_option linter.unusedVariables false
def M_strings_IndexByte (s_ : Str) (c : Int) (Q : Int → Prop) : Prop :=
  Q (byteAt s_ c)
set_option maxHeartbeats 1000000 in
theorem R_strings_IndexByte (s_ : Str) (c : Int) (w0 : World)  (Q : Int → Prop) (h : M_strings_IndexByte s_ c Q) :
    Ret Try.prog 99 #[.string (ba s_), .int .u8 c] w0 fun v w' => ∃ (r0 : Int), v = .int .i64 r0 ∧ Q r0 ∧ Sat w0 none_ [] w' := by
  refine fn_enter Try.func99 rfl Try.ntmps99 rfl (fs := [(0, .string (ba s_)), (1, .int .u8 c)]) rfl (fun a hf => ?_)
  have hs := Sat.start w0 none_
  unfold M_strings_IndexByte at h
  refine wp_seq ?_
  refine R.list ?_
  refine S.val hf hs (v := .int .i64 0) rfl rfl rfl (V.pure rfl) (fun a hf => ?_)
  refine R.nil ?_
  refine X.then_ ?_
  refine wp_seq ?_
  refine R.list ?_
  refine S.val hf hs (v := .string (ba s_)) rfl rfl rfl (V.pure rfl) (fun a hf => ?_)
  refine S.val hf hs (v := .int .u8 c) rfl rfl rfl (V.pure rfl) (fun a hf => ?_)
  refine S.callv hf rfl rfl rfl (call_fn (vs := [.string (ba s_), .int .u8 c]) rfl rfl rfl Try.call103) (C_lite_IndexByte s_ c _ ) (fun a w hf hs' => ?_)
  replace hs := hs.call hs'; clear hs'
  refine S.val hf hs (v := .int .i64 (byteAt s_ c)) rfl rfl rfl (V.pure rfl) (fun a hf => ?_)
  refine R.nil ?_
  refine X.then_ ?_
  refine wp_ret ?_
  exact L.ret hf (run_results1 Try.results99 (ResIs.tmp hf rfl)) ⟨(byteAt s_ c), rfl, h, hs.nil⟩

theorem E_strings_IndexByte (s : Str) (c : Int) : M_strings_IndexByte s c (· = byteAt s c) := rfl
theorem C_strings_IndexByte (s_ : Str) (c : Int) (w0 : World)  : Ret Try.prog 99 #[.string (ba s_), .int .u8 c] w0 fun v w' => v = .int .i64 (byteAt s_ c) ∧ Sat w0 none_ [] w' :=
  (R_strings_IndexByte s_ c w0  (· = (byteAt s_ c)) (E_strings_IndexByte s_ c)).mono fun v w' ⟨r0, hv, hr, hs⟩ => ⟨by subst hr; exact hv, hs⟩

set_option linter.unusedVariables false
def M_bytealg_CompareString (a_ : Str) (b : Str) (Q : Int → Prop) : Prop :=
  Q (cmpStr a_ b)
set_option maxHeartbeats 1000000 in
theorem R_bytealg_CompareString (a_ : Str) (b : Str) (w0 : World)  (Q : Int → Prop) (h : M_bytealg_CompareString a_ b Q) :
    Ret Try.prog 102 #[.string (ba a_), .string (ba b)] w0 fun v w' => ∃ (r0 : Int), v = .int .i64 r0 ∧ Q r0 ∧ Sat w0 none_ [] w' := by
  refine fn_enter Try.func102 rfl Try.ntmps102 rfl (fs := [(0, .string (ba a_)), (1, .string (ba b))]) rfl (fun a hf => ?_)
  have hs := Sat.start w0 none_
  unfold M_bytealg_CompareString at h
  refine wp_seq ?_
  refine R.list ?_
  refine S.val hf hs (v := .int .i64 0) rfl rfl rfl (V.pure rfl) (fun a hf => ?_)
  refine R.nil ?_
  refine X.then_ ?_
  refine wp_seq ?_
  refine R.list ?_
  refine S.val hf hs (v := .string (ba a_)) rfl rfl rfl (V.pure rfl) (fun a hf => ?_)
  refine S.val hf hs (v := .string (ba b)) rfl rfl rfl (V.pure rfl) (fun a hf => ?_)
  refine S.val hf hs (v := .int .i64 (cmpStr a_ b)) rfl rfl rfl (V.extern Try.func104 (by kernel_rfl) (by kernel_rfl) (by kernel_rfl) (by kernel_rfl) rfl rfl rfl (run_cmpStr _ _)) (fun a hf => ?_)
  refine S.val hf hs (v := .int .i64 (cmpStr a_ b)) rfl rfl rfl (V.pure rfl) (fun a hf => ?_)
  refine R.nil ?_
  refine X.then_ ?_
  refine wp_ret ?_
  exact L.ret hf (run_results1 Try.results102 (ResIs.tmp hf rfl)) ⟨(cmpStr a_ b), rfl, h, hs.nil⟩

theorem E_bytealg_CompareString (a b : Str) : M_bytealg_CompareString a b (· = cmpStr a b) := rfl
theorem C_bytealg_CompareString (a_ : Str) (b : Str) (w0 : World)  : Ret Try.prog 102 #[.string (ba a_), .string (ba b)] w0 fun v w' => v = .int .i64 (cmpStr a_ b) ∧ Sat w0 none_ [] w' :=
  (R_bytealg_CompareString a_ b w0  (· = (cmpStr a_ b)) (E_bytealg_CompareString a_ b)).mono fun v w' ⟨r0, hv, hr, hs⟩ => ⟨by subst hr; exact hv, hs⟩

set_option linter.unusedVariables false
def M_strings_Compare (a_ : Str) (b : Str) (Q : Int → Prop) : Prop :=
  Q (cmpStr a_ b)
set_option maxHeartbeats 1000000 in
theorem R_strings_Compare (a_ : Str) (b : Str) (w0 : World)  (Q : Int → Prop) (h : M_strings_Compare a_ b Q) :
    Ret Try.prog 96 #[.string (ba a_), .string (ba b)] w0 fun v w' => ∃ (r0 : Int), v = .int .i64 r0 ∧ Q r0 ∧ Sat w0 none_ [] w' := by
  refine fn_enter Try.func96 rfl Try.ntmps96 rfl (fs := [(0, .string (ba a_)), (1, .string (ba b))]) rfl (fun a hf => ?_)
  have hs := Sat.start w0 none_
  unfold M_strings_Compare at h
  refine wp_seq ?_
  refine R.list ?_
  refine S.val hf hs (v := .int .i64 0) rfl rfl rfl (V.pure rfl) (fun a hf => ?_)
  refine R.nil ?_
  refine X.then_ ?_
  refine wp_seq ?_
  refine R.list ?_
  refine S.val hf hs (v := .string (ba a_)) rfl rfl rfl (V.pure rfl) (fun a hf => ?_)
  refine S.val hf hs (v := .string (ba b)) rfl rfl rfl (V.pure rfl) (fun a hf => ?_)
  refine S.callv hf rfl rfl rfl (call_fn (vs := [.string (ba a_), .string (ba b)]) rfl rfl rfl Try.call102) (C_bytealg_CompareString a_ b _ ) (fun a w hf hs' => ?_)
  replace hs := hs.call hs'; clear hs'
  refine S.val hf hs (v := .int .i64 (cmpStr a_ b)) rfl rfl rfl (V.pure rfl) (fun a hf => ?_)
  refine R.nil ?_
  refine X.then_ ?_
  refine wp_ret ?_
  exact L.ret hf (run_results1 Try.results96 (ResIs.tmp hf rfl)) ⟨(cmpStr a_ b), rfl, h, hs.nil⟩

theorem E_strings_Compare (a b : Str) : M_strings_Compare a b (· = cmpStr a b) := rfl
theorem C_strings_Compare (a_ : Str) (b : Str) (w0 : World)  : Ret Try.prog 96 #[.string (ba a_), .string (ba b)] w0 fun v w' => v = .int .i64 (cmpStr a_ b) ∧ Sat w0 none_ [] w' :=
  (R_strings_Compare a_ b w0  (· = (cmpStr a_ b)) (E_strings_Compare a_ b)).mono fun v w' ⟨r0, hv, hr, hs⟩ => ⟨by subst hr; exact hv, hs⟩

set_option linter.unusedVariables false
def M_netlist_IsWord_k2 (Q : Bool → Prop) (n2 : Int) (again1 : Int → Prop) (c1 : Bool) : Prop :=
  cnd c1 (Q false) (again1 (w64 (n2 + 1)))
def M_netlist_IsWord_L1 (s_ : Str) (Q : Bool → Prop) (again1 : Int → Prop) (n2 : Int) : Prop :=
  cnd (decide (n2 < (s_.length : Int))) (idx s_ n2 fun x1 => cnd (decide ((x1.toNat : Int) < 65)) (cnd (decide ((x1.toNat : Int) < 97)) (cnd (decide ((x1.toNat : Int) < 48)) (M_netlist_IsWord_k2 Q n2 again1 (decide ((byteAt [95, 43, 45, 35] (x1.toNat : Int)) < 0))) (cnd (decide ((x1.toNat : Int) > 57)) (M_netlist_IsWord_k2 Q n2 again1 (decide ((byteAt [95, 43, 45, 35] (x1.toNat : Int)) < 0))) (M_netlist_IsWord_k2 Q n2 again1 false))) (cnd (decide ((x1.toNat : Int) > 122)) (cnd (decide ((x1.toNat : Int) < 48)) (M_netlist_IsWord_k2 Q n2 again1 (decide ((byteAt [95, 43, 45, 35] (x1.toNat : Int)) < 0))) (cnd (decide ((x1.toNat : Int) > 57)) (M_netlist_IsWord_k2 Q n2 again1 (decide ((byteAt [95, 43, 45, 35] (x1.toNat : Int)) < 0))) (M_netlist_IsWord_k2 Q n2 again1 false))) (M_netlist_IsWord_k2 Q n2 again1 false))) (cnd (decide ((x1.toNat : Int) > 90)) (cnd (decide ((x1.toNat : Int) < 97)) (cnd (decide ((x1.toNat : Int) < 48)) (M_netlist_IsWord_k2 Q n2 again1 (decide ((byteAt [95, 43, 45, 35] (x1.toNat : Int)) < 0))) (cnd (decide ((x1.toNat : Int) > 57)) (M_netlist_IsWord_k2 Q n2 again1 (decide ((byteAt [95, 43, 45, 35] (x1.toNat : Int)) < 0))) (M_netlist_IsWord_k2 Q n2 again1 false))) (cnd (decide ((x1.toNat : Int) > 122)) (cnd (decide ((x1.toNat : Int) < 48)) (M_netlist_IsWord_k2 Q n2 again1 (decide ((byteAt [95, 43, 45, 35] (x1.toNat : Int)) < 0))) (cnd (decide ((x1.toNat : Int) > 57)) (M_netlist_IsWord_k2 Q n2 again1 (decide ((byteAt [95, 43, 45, 35] (x1.toNat : Int)) < 0))) (M_netlist_IsWord_k2 Q n2 again1 false))) (M_netlist_IsWord_k2 Q n2 again1 false))) (M_netlist_IsWord_k2 Q n2 again1 false))) (cnd (decide ((s_.length : Int) ≥ 1)) (Q (decide ((s_.length : Int) ≤ 40))) (Q false))
def M_netlist_IsWord (s_ : Str) (Q : Bool → Prop) : Prop :=
  lp (fun again (s : Int) => M_netlist_IsWord_L1 s_ Q (fun n2 => again n2) s) 0
set_option maxHeartbeats 1000000 in
theorem R_netlist_IsWord (s_ : Str) (w0 : World)  (Q : Bool → Prop) (h : M_netlist_IsWord s_ Q) :
    Ret Try.prog 88 #[.string (ba s_)] w0 fun v w' => ∃ (r0 : Bool), v = .bool r0 ∧ Q r0 ∧ Sat w0 none_ [] w' := by
  refine fn_enter Try.func88 rfl Try.ntmps88 rfl (fs := [(0, .string (ba s_))]) rfl (fun a hf => ?_)
  have hs := Sat.start w0 none_
  unfold M_netlist_IsWord at h
  refine wp_seq ?_
  refine R.list ?_
  refine S.val hf hs (v := .bool false) rfl rfl rfl (V.pure rfl) (fun a hf => ?_)
  refine R.nil ?_
  refine X.then_ ?_
  refine wp_seq ?_
  refine wp_seq ?_
  refine R.list ?_
  refine S.val hf hs (v := .string (ba s_)) rfl rfl rfl (V.pure rfl) (fun a hf => ?_)
  refine S.val hf hs (v := .int .i64 (s_.length : Int)) rfl rfl rfl (V.lenStr rfl rfl Try.runUnderlying9) (fun a hf => ?_)
  refine S.val hf hs (v := .int .i64 0) rfl rfl rfl (V.pure rfl) (fun a hf => ?_)
  refine R.nil ?_
  refine X.then_ ?_
  refine wp_block ?_
  obtain ⟨kk, h⟩ := h
  refine C.loop (fun kk a w => ∃ (n2 : Int), iterF (fun again (s : Int) => M_netlist_IsWord_L1 s_ Q (fun n2 => again n2) s) kk n2 ∧ FrOk 49 [(0, .string (ba s_)), (6, .int .i64 (s_.length : Int)), (7, .int .i64 n2)] a ∧ Sat w0 none_ [] w) kk ⟨0, h, (((hf.nil.cons (hf.get 7 _ rfl)).cons (hf.get 6 _ rfl)).cons (hf.get 0 _ rfl)), hs⟩ (fun a w ⟨_, h, _, _⟩ => h) ?_
  clear h hf hs
  rintro kk a w ⟨n2, h, hf, hs⟩
  obtain ⟨again1, hagain1⟩ : ∃ X : Int → Prop, X = (fun n2 => iterF (fun again (s : Int) => M_netlist_IsWord_L1 s_ Q (fun n2 => again n2) s) kk n2) := ⟨_, rfl⟩
  replace h : M_netlist_IsWord_L1 s_ Q again1 n2 := by rw [hagain1]; exact h
  unfold M_netlist_IsWord_L1 at h
  refine wp_seq ?_
  refine R.list ?_
  refine S.val hf hs (v := .bool (decide (n2 < (s_.length : Int)))) rfl rfl rfl (V.pure rfl) (fun a hf => ?_)
  refine R.nil ?_
  refine X.then_ ?_
  refine wp_seq ?_
  refine C.cond hf (b := decide (n2 < (s_.length : Int))) rfl (fun hc => ?_) (fun hc => ?_)
  · replace h := h.1 hc
    refine wp_skip ?_
    refine X.then_ ?_
    refine wp_seq ?_
    refine wp_block ?_
    refine wp_seq ?_
    refine R.list ?_
    refine S.val hf hs (v := .int .i64 n2) rfl rfl rfl (V.pure rfl) (fun a hf => ?_)
    refine S.val hf hs (v := .int .i64 n2) rfl rfl rfl (V.pure rfl) (fun a hf => ?_)
    refine R.nil ?_
    refine X.then_ ?_
    refine wp_seq ?_
    refine R.list ?_
    refine S.val hf hs (v := .string (ba s_)) rfl rfl rfl (V.pure rfl) (fun a hf => ?_)
    refine S.val hf hs (v := .int .i64 n2) rfl rfl rfl (V.pure rfl) (fun a hf => ?_)
    obtain ⟨h0x1, x1, hx1, h⟩ := h
    refine S.val hf hs (v := .int .u8 (x1.toNat : Int)) rfl rfl rfl (V.indexStr rfl rfl rfl Try.runUnderlying9 h0x1 hx1) (fun a hf => ?_)
    refine S.val hf hs (v := .int .u8 (x1.toNat : Int)) rfl rfl rfl (V.pure rfl) (fun a hf => ?_)
    refine R.nil ?_
    refine X.then_ ?_
    refine wp_seq ?_
    refine C.cut (J := fun a w => ∃ (c1 : Bool), M_netlist_IsWord_k2 Q n2 again1 c1 ∧ FrOk 49 [(0, .string (ba s_)), (6, .int .i64 (s_.length : Int)), (7, .int .i64 n2), (39, .bool c1)] a ∧ Sat w0 none_ [] w) ?_ ?_
    · rintro a w ⟨c1, h, hf, hs⟩
      unfold M_netlist_IsWord_k2 at h
      refine C.cond hf (b := c1) rfl (fun hc => ?_) (fun hc => ?_)
      · replace h := h.1 hc
        refine wp_seq ?_
        refine R.list ?_
        refine S.val hf hs (v := .bool false) rfl rfl rfl (V.pure rfl) (fun a hf => ?_)
        refine R.nil ?_
        refine X.then_ ?_
        refine wp_ret ?_
        refine X.blk_ret ?_
        refine X.then_ret ?_
        refine X.then_ret ?_
        refine X.blk_ret ?_
        refine X.then_ret ?_
        exact L.ret hf (run_results1 Try.results88 (ResIs.tmp hf rfl)) ⟨false, rfl, h, hs.nil⟩
      · replace h := h.2 hc
        refine wp_skip ?_
        refine X.blk ?_
        refine X.then_ ?_
        refine R.list ?_
        refine S.val hf hs (v := .int .i64 (w64 (n2 + 1))) rfl rfl rfl (V.pure rfl) (fun a hf => ?_)
        refine S.val hf hs (v := .int .i64 (w64 (n2 + 1))) rfl rfl rfl (V.pure rfl) (fun a hf => ?_)
        refine R.nil ?_
        refine X.then_ ?_
        exact ⟨(w64 (n2 + 1)), (by rw [hagain1] at h; exact h), (((hf.nil.cons (hf.get 7 _ rfl)).cons (hf.get 6 _ rfl)).cons (hf.get 0 _ rfl)), hs⟩
    · skip
      refine R.list ?_
      refine S.val hf hs (v := .int .u8 (x1.toNat : Int)) rfl rfl rfl (V.pure rfl) (fun a hf => ?_)
      refine S.val hf hs (v := .bool (decide ((x1.toNat : Int) < 65))) rfl rfl rfl (V.pure rfl) (fun a hf => ?_)
      refine S.split hf hs (b := decide ((x1.toNat : Int) < 65)) rfl rfl rfl (V.pure rfl) (fun hc a hf => ?_) (fun hc a hf => ?_)
      · replace h := h.1 hc
        refine S.skip hf rfl rfl rfl (fun a hf => ?_)
        refine S.skip hf rfl rfl rfl (fun a hf => ?_)
        refine S.val hf hs (v := .bool true) rfl rfl rfl (V.pure rfl) (fun a hf => ?_)
        refine S.val hf hs (v := .bool true) rfl rfl rfl (V.pure rfl) (fun a hf => ?_)
        refine S.val hf hs (v := .int .u8 (x1.toNat : Int)) rfl rfl rfl (V.pure rfl) (fun a hf => ?_)
        refine S.val hf hs (v := .bool (decide ((x1.toNat : Int) < 97))) rfl rfl rfl (V.pure rfl) (fun a hf => ?_)
        refine S.split hf hs (b := decide ((x1.toNat : Int) < 97)) rfl rfl rfl (V.pure rfl) (fun hc a hf => ?_) (fun hc a hf => ?_)
        · replace h := h.1 hc
          refine S.skip hf rfl rfl rfl (fun a hf => ?_)
          refine S.skip hf rfl rfl rfl (fun a hf => ?_)
          refine S.val hf hs (v := .bool true) rfl rfl rfl (V.pure rfl) (fun a hf => ?_)
          refine S.val hf hs (v := .bool true) rfl rfl rfl (V.pure rfl) (fun a hf => ?_)
          refine S.val hf hs (v := .bool true) rfl rfl rfl (V.pure rfl) (fun a hf => ?_)
          refine S.val hf hs (v := .int .u8 (x1.toNat : Int)) rfl rfl rfl (V.pure rfl) (fun a hf => ?_)
          refine S.val hf hs (v := .bool (decide ((x1.toNat : Int) < 48))) rfl rfl rfl (V.pure rfl) (fun a hf => ?_)
          refine S.split hf hs (b := decide ((x1.toNat : Int) < 48)) rfl rfl rfl (V.pure rfl) (fun hc a hf => ?_) (fun hc a hf => ?_)
          · replace h := h.1 hc
            refine S.skip hf rfl rfl rfl (fun a hf => ?_)
            refine S.skip hf rfl rfl rfl (fun a hf => ?_)
            refine S.val hf hs (v := .bool true) rfl rfl rfl (V.pure rfl) (fun a hf => ?_)
            refine S.val hf hs (v := .bool true) rfl rfl rfl (V.pure rfl) (fun a hf => ?_)
            refine S.val hf hs (v := .bool true) rfl rfl rfl (V.pure rfl) (fun a hf => ?_)
            refine S.val hf hs (v := .int .u8 (x1.toNat : Int)) rfl rfl rfl (V.pure rfl) (fun a hf => ?_)
            refine S.callv hf rfl rfl rfl (call_fn (vs := [.string (ba [95, 43, 45, 35]), .int .u8 (x1.toNat : Int)]) rfl rfl rfl Try.call99) (C_strings_IndexByte [95, 43, 45, 35] (x1.toNat : Int) _ ) (fun a w hf hs' => ?_)
            replace hs := hs.call hs'; clear hs'
            refine S.val hf hs (v := .bool (decide ((byteAt [95, 43, 45, 35] (x1.toNat : Int)) < 0))) rfl rfl rfl (V.pure rfl) (fun a hf => ?_)
            refine S.val hf hs (v := .bool (decide ((byteAt [95, 43, 45, 35] (x1.toNat : Int)) < 0))) rfl rfl rfl (V.pure rfl) (fun a hf => ?_)
            refine R.nil ?_
            refine X.then_ ?_
            exact ⟨(decide ((byteAt [95, 43, 45, 35] (x1.toNat : Int)) < 0)), h, ((((hf.nil.cons (hf.get 39 _ rfl)).cons (hf.get 7 _ rfl)).cons (hf.get 6 _ rfl)).cons (hf.get 0 _ rfl)), hs⟩
          · replace h := h.2 hc
            refine S.val hf hs (v := .int .u8 (x1.toNat : Int)) rfl rfl rfl (V.pure rfl) (fun a hf => ?_)
            refine S.val hf hs (v := .bool (decide ((x1.toNat : Int) > 57))) rfl rfl rfl (V.pure rfl) (fun a hf => ?_)
            refine S.val hf hs (v := .bool (decide ((x1.toNat : Int) > 57))) rfl rfl rfl (V.pure rfl) (fun a hf => ?_)
            refine S.val hf hs (v := .bool (decide ((x1.toNat : Int) > 57))) rfl rfl rfl (V.pure rfl) (fun a hf => ?_)
            refine S.split hf hs (b := decide ((x1.toNat : Int) > 57)) rfl rfl rfl (V.pure rfl) (fun hc a hf => ?_) (fun hc a hf => ?_)
            · replace h := h.1 hc
              refine S.val hf hs (v := .int .u8 (x1.toNat : Int)) rfl rfl rfl (V.pure rfl) (fun a hf => ?_)
              refine S.callv hf rfl rfl rfl (call_fn (vs := [.string (ba [95, 43, 45, 35]), .int .u8 (x1.toNat : Int)]) rfl rfl rfl Try.call99) (C_strings_IndexByte [95, 43, 45, 35] (x1.toNat : Int) _ ) (fun a w hf hs' => ?_)
              replace hs := hs.call hs'; clear hs'
              refine S.val hf hs (v := .bool (decide ((byteAt [95, 43, 45, 35] (x1.toNat : Int)) < 0))) rfl rfl rfl (V.pure rfl) (fun a hf => ?_)
              refine S.val hf hs (v := .bool (decide ((byteAt [95, 43, 45, 35] (x1.toNat : Int)) < 0))) rfl rfl rfl (V.pure rfl) (fun a hf => ?_)
              refine R.nil ?_
              refine X.then_ ?_
              exact ⟨(decide ((byteAt [95, 43, 45, 35] (x1.toNat : Int)) < 0)), h, ((((hf.nil.cons (hf.get 39 _ rfl)).cons (hf.get 7 _ rfl)).cons (hf.get 6 _ rfl)).cons (hf.get 0 _ rfl)), hs⟩
            · replace h := h.2 hc
              refine S.skip hf rfl rfl rfl (fun a hf => ?_)
              refine S.skip hf rfl rfl rfl (fun a hf => ?_)
              refine S.skip hf rfl rfl rfl (fun a hf => ?_)
              refine S.val hf hs (v := .bool false) rfl rfl rfl (V.pure rfl) (fun a hf => ?_)
              refine R.nil ?_
              refine X.then_ ?_
              exact ⟨false, h, ((((hf.nil.cons (hf.get 39 _ rfl)).cons (hf.get 7 _ rfl)).cons (hf.get 6 _ rfl)).cons (hf.get 0 _ rfl)), hs⟩
        · replace h := h.2 hc
          refine S.val hf hs (v := .int .u8 (x1.toNat : Int)) rfl rfl rfl (V.pure rfl) (fun a hf => ?_)
          refine S.val hf hs (v := .bool (decide ((x1.toNat : Int) > 122))) rfl rfl rfl (V.pure rfl) (fun a hf => ?_)
          refine S.val hf hs (v := .bool (decide ((x1.toNat : Int) > 122))) rfl rfl rfl (V.pure rfl) (fun a hf => ?_)
          refine S.val hf hs (v := .bool (decide ((x1.toNat : Int) > 122))) rfl rfl rfl (V.pure rfl) (fun a hf => ?_)
          refine S.split hf hs (b := decide ((x1.toNat : Int) > 122)) rfl rfl rfl (V.pure rfl) (fun hc a hf => ?_) (fun hc a hf => ?_)
          · replace h := h.1 hc
            refine S.val hf hs (v := .int .u8 (x1.toNat : Int)) rfl rfl rfl (V.pure rfl) (fun a hf => ?_)
            refine S.val hf hs (v := .bool (decide ((x1.toNat : Int) < 48))) rfl rfl rfl (V.pure rfl) (fun a hf => ?_)
            refine S.split hf hs (b := decide ((x1.toNat : Int) < 48)) rfl rfl rfl (V.pure rfl) (fun hc a hf => ?_) (fun hc a hf => ?_)
            · replace h := h.1 hc
              refine S.skip hf rfl rfl rfl (fun a hf => ?_)
              refine S.skip hf rfl rfl rfl (fun a hf => ?_)
              refine S.val hf hs (v := .bool true) rfl rfl rfl (V.pure rfl) (fun a hf => ?_)
              refine S.val hf hs (v := .bool true) rfl rfl rfl (V.pure rfl) (fun a hf => ?_)
              refine S.val hf hs (v := .bool true) rfl rfl rfl (V.pure rfl) (fun a hf => ?_)
              refine S.val hf hs (v := .int .u8 (x1.toNat : Int)) rfl rfl rfl (V.pure rfl) (fun a hf => ?_)
              refine S.callv hf rfl rfl rfl (call_fn (vs := [.string (ba [95, 43, 45, 35]), .int .u8 (x1.toNat : Int)]) rfl rfl rfl Try.call99) (C_strings_IndexByte [95, 43, 45, 35] (x1.toNat : Int) _ ) (fun a w hf hs' => ?_)
              replace hs := hs.call hs'; clear hs'
              refine S.val hf hs (v := .bool (decide ((byteAt [95, 43, 45, 35] (x1.toNat : Int)) < 0))) rfl rfl rfl (V.pure rfl) (fun a hf => ?_)
              refine S.val hf hs (v := .bool (decide ((byteAt [95, 43, 45, 35] (x1.toNat : Int)) < 0))) rfl rfl rfl (V.pure rfl) (fun a hf => ?_)
              refine R.nil ?_
              refine X.then_ ?_
              exact ⟨(decide ((byteAt [95, 43, 45, 35] (x1.toNat : Int)) < 0)), h, ((((hf.nil.cons (hf.get 39 _ rfl)).cons (hf.get 7 _ rfl)).cons (hf.get 6 _ rfl)).cons (hf.get 0 _ rfl)), hs⟩
            · replace h := h.2 hc
              refine S.val hf hs (v := .int .u8 (x1.toNat : Int)) rfl rfl rfl (V.pure rfl) (fun a hf => ?_)
              refine S.val hf hs (v := .bool (decide ((x1.toNat : Int) > 57))) rfl rfl rfl (V.pure rfl) (fun a hf => ?_)
              refine S.val hf hs (v := .bool (decide ((x1.toNat : Int) > 57))) rfl rfl rfl (V.pure rfl) (fun a hf => ?_)
              refine S.val hf hs (v := .bool (decide ((x1.toNat : Int) > 57))) rfl rfl rfl (V.pure rfl) (fun a hf => ?_)
              refine S.split hf hs (b := decide ((x1.toNat : Int) > 57)) rfl rfl rfl (V.pure rfl) (fun hc a hf => ?_) (fun hc a hf => ?_)
              · replace h := h.1 hc
                refine S.val hf hs (v := .int .u8 (x1.toNat : Int)) rfl rfl rfl (V.pure rfl) (fun a hf => ?_)
                refine S.callv hf rfl rfl rfl (call_fn (vs := [.string (ba [95, 43, 45, 35]), .int .u8 (x1.toNat : Int)]) rfl rfl rfl Try.call99) (C_strings_IndexByte [95, 43, 45, 35] (x1.toNat : Int) _ ) (fun a w hf hs' => ?_)
                replace hs := hs.call hs'; clear hs'
                refine S.val hf hs (v := .bool (decide ((byteAt [95, 43, 45, 35] (x1.toNat : Int)) < 0))) rfl rfl rfl (V.pure rfl) (fun a hf => ?_)
                refine S.val hf hs (v := .bool (decide ((byteAt [95, 43, 45, 35] (x1.toNat : Int)) < 0))) rfl rfl rfl (V.pure rfl) (fun a hf => ?_)
                refine R.nil ?_
                refine X.then_ ?_
                exact ⟨(decide ((byteAt [95, 43, 45, 35] (x1.toNat : Int)) < 0)), h, ((((hf.nil.cons (hf.get 39 _ rfl)).cons (hf.get 7 _ rfl)).cons (hf.get 6 _ rfl)).cons (hf.get 0 _ rfl)), hs⟩
              · replace h := h.2 hc
                refine S.skip hf rfl rfl rfl (fun a hf => ?_)
                refine S.skip hf rfl rfl rfl (fun a hf => ?_)
                refine S.skip hf rfl rfl rfl (fun a hf => ?_)
                refine S.val hf hs (v := .bool false) rfl rfl rfl (V.pure rfl) (fun a hf => ?_)
                refine R.nil ?_
                refine X.then_ ?_
                exact ⟨false, h, ((((hf.nil.cons (hf.get 39 _ rfl)).cons (hf.get 7 _ rfl)).cons (hf.get 6 _ rfl)).cons (hf.get 0 _ rfl)), hs⟩
          · replace h := h.2 hc
            refine S.skip hf rfl rfl rfl (fun a hf => ?_)
            refine S.skip hf rfl rfl rfl (fun a hf => ?_)
            refine S.skip hf rfl rfl rfl (fun a hf => ?_)
            refine S.skip hf rfl rfl rfl (fun a hf => ?_)
            refine S.skip hf rfl rfl rfl (fun a hf => ?_)
            refine S.skip hf rfl rfl rfl (fun a hf => ?_)
            refine S.val hf hs (v := .bool false) rfl rfl rfl (V.pure rfl) (fun a hf => ?_)
            refine S.val hf hs (v := .bool false) rfl rfl rfl (V.pure rfl) (fun a hf => ?_)
            refine S.skip hf rfl rfl rfl (fun a hf => ?_)
            refine S.skip hf rfl rfl rfl (fun a hf => ?_)
            refine S.skip hf rfl rfl rfl (fun a hf => ?_)
            refine S.val hf hs (v := .bool false) rfl rfl rfl (V.pure rfl) (fun a hf => ?_)
            refine R.nil ?_
            refine X.then_ ?_
            exact ⟨false, h, ((((hf.nil.cons (hf.get 39 _ rfl)).cons (hf.get 7 _ rfl)).cons (hf.get 6 _ rfl)).cons (hf.get 0 _ rfl)), hs⟩
      · replace h := h.2 hc
        refine S.val hf hs (v := .int .u8 (x1.toNat : Int)) rfl rfl rfl (V.pure rfl) (fun a hf => ?_)
        refine S.val hf hs (v := .bool (decide ((x1.toNat : Int) > 90))) rfl rfl rfl (V.pure rfl) (fun a hf => ?_)
        refine S.val hf hs (v := .bool (decide ((x1.toNat : Int) > 90))) rfl rfl rfl (V.pure rfl) (fun a hf => ?_)
        refine S.split hf hs (b := decide ((x1.toNat : Int) > 90)) rfl rfl rfl (V.pure rfl) (fun hc a hf => ?_) (fun hc a hf => ?_)
        · replace h := h.1 hc
          refine S.val hf hs (v := .int .u8 (x1.toNat : Int)) rfl rfl rfl (V.pure rfl) (fun a hf => ?_)
          refine S.val hf hs (v := .bool (decide ((x1.toNat : Int) < 97))) rfl rfl rfl (V.pure rfl) (fun a hf => ?_)
          refine S.split hf hs (b := decide ((x1.toNat : Int) < 97)) rfl rfl rfl (V.pure rfl) (fun hc a hf => ?_) (fun hc a hf => ?_)
          · replace h := h.1 hc
            refine S.skip hf rfl rfl rfl (fun a hf => ?_)
            refine S.skip hf rfl rfl rfl (fun a hf => ?_)
            refine S.val hf hs (v := .bool true) rfl rfl rfl (V.pure rfl) (fun a hf => ?_)
            refine S.val hf hs (v := .bool true) rfl rfl rfl (V.pure rfl) (fun a hf => ?_)
            refine S.val hf hs (v := .bool true) rfl rfl rfl (V.pure rfl) (fun a hf => ?_)
            refine S.val hf hs (v := .int .u8 (x1.toNat : Int)) rfl rfl rfl (V.pure rfl) (fun a hf => ?_)
            refine S.val hf hs (v := .bool (decide ((x1.toNat : Int) < 48))) rfl rfl rfl (V.pure rfl) (fun a hf => ?_)
            refine S.split hf hs (b := decide ((x1.toNat : Int) < 48)) rfl rfl rfl (V.pure rfl) (fun hc a hf => ?_) (fun hc a hf => ?_)
            · replace h := h.1 hc
              refine S.skip hf rfl rfl rfl (fun a hf => ?_)
              refine S.skip hf rfl rfl rfl (fun a hf => ?_)
              refine S.val hf hs (v := .bool true) rfl rfl rfl (V.pure rfl) (fun a hf => ?_)
              refine S.val hf hs (v := .bool true) rfl rfl rfl (V.pure rfl) (fun a hf => ?_)
              refine S.val hf hs (v := .bool true) rfl rfl rfl (V.pure rfl) (fun a hf => ?_)
              refine S.val hf hs (v := .int .u8 (x1.toNat : Int)) rfl rfl rfl (V.pure rfl) (fun a hf => ?_)
              refine S.callv hf rfl rfl rfl (call_fn (vs := [.string (ba [95, 43, 45, 35]), .int .u8 (x1.toNat : Int)]) rfl rfl rfl Try.call99) (C_strings_IndexByte [95, 43, 45, 35] (x1.toNat : Int) _ ) (fun a w hf hs' => ?_)
              replace hs := hs.call hs'; clear hs'
              refine S.val hf hs (v := .bool (decide ((byteAt [95, 43, 45, 35] (x1.toNat : Int)) < 0))) rfl rfl rfl (V.pure rfl) (fun a hf => ?_)
              refine S.val hf hs (v := .bool (decide ((byteAt [95, 43, 45, 35] (x1.toNat : Int)) < 0))) rfl rfl rfl (V.pure rfl) (fun a hf => ?_)
              refine R.nil ?_
              refine X.then_ ?_
              exact ⟨(decide ((byteAt [95, 43, 45, 35] (x1.toNat : Int)) < 0)), h, ((((hf.nil.cons (hf.get 39 _ rfl)).cons (hf.get 7 _ rfl)).cons (hf.get 6 _ rfl)).cons (hf.get 0 _ rfl)), hs⟩
            · replace h := h.2 hc
              refine S.val hf hs (v := .int .u8 (x1.toNat : Int)) rfl rfl rfl (V.pure rfl) (fun a hf => ?_)
              refine S.val hf hs (v := .bool (decide ((x1.toNat : Int) > 57))) rfl rfl rfl (V.pure rfl) (fun a hf => ?_)
              refine S.val hf hs (v := .bool (decide ((x1.toNat : Int) > 57))) rfl rfl rfl (V.pure rfl) (fun a hf => ?_)
              refine S.val hf hs (v := .bool (decide ((x1.toNat : Int) > 57))) rfl rfl rfl (V.pure rfl) (fun a hf => ?_)
              refine S.split hf hs (b := decide ((x1.toNat : Int) > 57)) rfl rfl rfl (V.pure rfl) (fun hc a hf => ?_) (fun hc a hf => ?_)
              · replace h := h.1 hc
                refine S.val hf hs (v := .int .u8 (x1.toNat : Int)) rfl rfl rfl (V.pure rfl) (fun a hf => ?_)
                refine S.callv hf rfl rfl rfl (call_fn (vs := [.string (ba [95, 43, 45, 35]), .int .u8 (x1.toNat : Int)]) rfl rfl rfl Try.call99) (C_strings_IndexByte [95, 43, 45, 35] (x1.toNat : Int) _ ) (fun a w hf hs' => ?_)
                replace hs := hs.call hs'; clear hs'
                refine S.val hf hs (v := .bool (decide ((byteAt [95, 43, 45, 35] (x1.toNat : Int)) < 0))) rfl rfl rfl (V.pure rfl) (fun a hf => ?_)
                refine S.val hf hs (v := .bool (decide ((byteAt [95, 43, 45, 35] (x1.toNat : Int)) < 0))) rfl rfl rfl (V.pure rfl) (fun a hf => ?_)
                refine R.nil ?_
                refine X.then_ ?_
                exact ⟨(decide ((byteAt [95, 43, 45, 35] (x1.toNat : Int)) < 0)), h, ((((hf.nil.cons (hf.get 39 _ rfl)).cons (hf.get 7 _ rfl)).cons (hf.get 6 _ rfl)).cons (hf.get 0 _ rfl)), hs⟩
              · replace h := h.2 hc
                refine S.skip hf rfl rfl rfl (fun a hf => ?_)
                refine S.skip hf rfl rfl rfl (fun a hf => ?_)
                refine S.skip hf rfl rfl rfl (fun a hf => ?_)
                refine S.val hf hs (v := .bool false) rfl rfl rfl (V.pure rfl) (fun a hf => ?_)
                refine R.nil ?_
                refine X.then_ ?_
                exact ⟨false, h, ((((hf.nil.cons (hf.get 39 _ rfl)).cons (hf.get 7 _ rfl)).cons (hf.get 6 _ rfl)).cons (hf.get 0 _ rfl)), hs⟩
          · replace h := h.2 hc
            refine S.val hf hs (v := .int .u8 (x1.toNat : Int)) rfl rfl rfl (V.pure rfl) (fun a hf => ?_)
            refine S.val hf hs (v := .bool (decide ((x1.toNat : Int) > 122))) rfl rfl rfl (V.pure rfl) (fun a hf => ?_)
            refine S.val hf hs (v := .bool (decide ((x1.toNat : Int) > 122))) rfl rfl rfl (V.pure rfl) (fun a hf => ?_)
            refine S.val hf hs (v := .bool (decide ((x1.toNat : Int) > 122))) rfl rfl rfl (V.pure rfl) (fun a hf => ?_)
            refine S.split hf hs (b := decide ((x1.toNat : Int) > 122)) rfl rfl rfl (V.pure rfl) (fun hc a hf => ?_) (fun hc a hf => ?_)
            · replace h := h.1 hc
              refine S.val hf hs (v := .int .u8 (x1.toNat : Int)) rfl rfl rfl (V.pure rfl) (fun a hf => ?_)
              refine S.val hf hs (v := .bool (decide ((x1.toNat : Int) < 48))) rfl rfl rfl (V.pure rfl) (fun a hf => ?_)
              refine S.split hf hs (b := decide ((x1.toNat : Int) < 48)) rfl rfl rfl (V.pure rfl) (fun hc a hf => ?_) (fun hc a hf => ?_)
              · replace h := h.1 hc
                refine S.skip hf rfl rfl rfl (fun a hf => ?_)
                refine S.skip hf rfl rfl rfl (fun a hf => ?_)
                refine S.val hf hs (v := .bool true) rfl rfl rfl (V.pure rfl) (fun a hf => ?_)
                refine S.val hf hs (v := .bool true) rfl rfl rfl (V.pure rfl) (fun a hf => ?_)
                refine S.val hf hs (v := .bool true) rfl rfl rfl (V.pure rfl) (fun a hf => ?_)
                refine S.val hf hs (v := .int .u8 (x1.toNat : Int)) rfl rfl rfl (V.pure rfl) (fun a hf => ?_)
                refine S.callv hf rfl rfl rfl (call_fn (vs := [.string (ba [95, 43, 45, 35]), .int .u8 (x1.toNat : Int)]) rfl rfl rfl Try.call99) (C_strings_IndexByte [95, 43, 45, 35] (x1.toNat : Int) _ ) (fun a w hf hs' => ?_)
                replace hs := hs.call hs'; clear hs'
                refine S.val hf hs (v := .bool (decide ((byteAt [95, 43, 45, 35] (x1.toNat : Int)) < 0))) rfl rfl rfl (V.pure rfl) (fun a hf => ?_)
                refine S.val hf hs (v := .bool (decide ((byteAt [95, 43, 45, 35] (x1.toNat : Int)) < 0))) rfl rfl rfl (V.pure rfl) (fun a hf => ?_)
                refine R.nil ?_
                refine X.then_ ?_
                exact ⟨(decide ((byteAt [95, 43, 45, 35] (x1.toNat : Int)) < 0)), h, ((((hf.nil.cons (hf.get 39 _ rfl)).cons (hf.get 7 _ rfl)).cons (hf.get 6 _ rfl)).cons (hf.get 0 _ rfl)), hs⟩
              · replace h := h.2 hc
                refine S.val hf hs (v := .int .u8 (x1.toNat : Int)) rfl rfl rfl (V.pure rfl) (fun a hf => ?_)
                refine S.val hf hs (v := .bool (decide ((x1.toNat : Int) > 57))) rfl rfl rfl (V.pure rfl) (fun a hf => ?_)
                refine S.val hf hs (v := .bool (decide ((x1.toNat : Int) > 57))) rfl rfl rfl (V.pure rfl) (fun a hf => ?_)
                refine S.val hf hs (v := .bool (decide ((x1.toNat : Int) > 57))) rfl rfl rfl (V.pure rfl) (fun a hf => ?_)
                refine S.split hf hs (b := decide ((x1.toNat : Int) > 57)) rfl rfl rfl (V.pure rfl) (fun hc a hf => ?_) (fun hc a hf => ?_)
                · replace h := h.1 hc
                  refine S.val hf hs (v := .int .u8 (x1.toNat : Int)) rfl rfl rfl (V.pure rfl) (fun a hf => ?_)
                  refine S.callv hf rfl rfl rfl (call_fn (vs := [.string (ba [95, 43, 45, 35]), .int .u8 (x1.toNat : Int)]) rfl rfl rfl Try.call99) (C_strings_IndexByte [95, 43, 45, 35] (x1.toNat : Int) _ ) (fun a w hf hs' => ?_)
                  replace hs := hs.call hs'; clear hs'
                  refine S.val hf hs (v := .bool (decide ((byteAt [95, 43, 45, 35] (x1.toNat : Int)) < 0))) rfl rfl rfl (V.pure rfl) (fun a hf => ?_)
                  refine S.val hf hs (v := .bool (decide ((byteAt [95, 43, 45, 35] (x1.toNat : Int)) < 0))) rfl rfl rfl (V.pure rfl) (fun a hf => ?_)
                  refine R.nil ?_
                  refine X.then_ ?_
                  exact ⟨(decide ((byteAt [95, 43, 45, 35] (x1.toNat : Int)) < 0)), h, ((((hf.nil.cons (hf.get 39 _ rfl)).cons (hf.get 7 _ rfl)).cons (hf.get 6 _ rfl)).cons (hf.get 0 _ rfl)), hs⟩
                · replace h := h.2 hc
                  refine S.skip hf rfl rfl rfl (fun a hf => ?_)
                  refine S.skip hf rfl rfl rfl (fun a hf => ?_)
                  refine S.skip hf rfl rfl rfl (fun a hf => ?_)
                  refine S.val hf hs (v := .bool false) rfl rfl rfl (V.pure rfl) (fun a hf => ?_)
                  refine R.nil ?_
                  refine X.then_ ?_
                  exact ⟨false, h, ((((hf.nil.cons (hf.get 39 _ rfl)).cons (hf.get 7 _ rfl)).cons (hf.get 6 _ rfl)).cons (hf.get 0 _ rfl)), hs⟩
            · replace h := h.2 hc
              refine S.skip hf rfl rfl rfl (fun a hf => ?_)
              refine S.skip hf rfl rfl rfl (fun a hf => ?_)
              refine S.skip hf rfl rfl rfl (fun a hf => ?_)
              refine S.skip hf rfl rfl rfl (fun a hf => ?_)
              refine S.skip hf rfl rfl rfl (fun a hf => ?_)
              refine S.skip hf rfl rfl rfl (fun a hf => ?_)
              refine S.val hf hs (v := .bool false) rfl rfl rfl (V.pure rfl) (fun a hf => ?_)
              refine S.val hf hs (v := .bool false) rfl rfl rfl (V.pure rfl) (fun a hf => ?_)
              refine S.skip hf rfl rfl rfl (fun a hf => ?_)
              refine S.skip hf rfl rfl rfl (fun a hf => ?_)
              refine S.skip hf rfl rfl rfl (fun a hf => ?_)
              refine S.val hf hs (v := .bool false) rfl rfl rfl (V.pure rfl) (fun a hf => ?_)
              refine R.nil ?_
              refine X.then_ ?_
              exact ⟨false, h, ((((hf.nil.cons (hf.get 39 _ rfl)).cons (hf.get 7 _ rfl)).cons (hf.get 6 _ rfl)).cons (hf.get 0 _ rfl)), hs⟩
        · replace h := h.2 hc
          refine S.skip hf rfl rfl rfl (fun a hf => ?_)
          refine S.skip hf rfl rfl rfl (fun a hf => ?_)
          refine S.skip hf rfl rfl rfl (fun a hf => ?_)
          refine S.skip hf rfl rfl rfl (fun a hf => ?_)
          refine S.skip hf rfl rfl rfl (fun a hf => ?_)
          refine S.skip hf rfl rfl rfl (fun a hf => ?_)
          refine S.val hf hs (v := .bool false) rfl rfl rfl (V.pure rfl) (fun a hf => ?_)
          refine S.val hf hs (v := .bool false) rfl rfl rfl (V.pure rfl) (fun a hf => ?_)
          refine S.skip hf rfl rfl rfl (fun a hf => ?_)
          refine S.skip hf rfl rfl rfl (fun a hf => ?_)
          refine S.skip hf rfl rfl rfl (fun a hf => ?_)
          refine S.skip hf rfl rfl rfl (fun a hf => ?_)
          refine S.skip hf rfl rfl rfl (fun a hf => ?_)
          refine S.skip hf rfl rfl rfl (fun a hf => ?_)
          refine S.val hf hs (v := .bool false) rfl rfl rfl (V.pure rfl) (fun a hf => ?_)
          refine S.val hf hs (v := .bool false) rfl rfl rfl (V.pure rfl) (fun a hf => ?_)
          refine S.skip hf rfl rfl rfl (fun a hf => ?_)
          refine S.skip hf rfl rfl rfl (fun a hf => ?_)
          refine S.skip hf rfl rfl rfl (fun a hf => ?_)
          refine S.val hf hs (v := .bool false) rfl rfl rfl (V.pure rfl) (fun a hf => ?_)
          refine R.nil ?_
          refine X.then_ ?_
          exact ⟨false, h, ((((hf.nil.cons (hf.get 39 _ rfl)).cons (hf.get 7 _ rfl)).cons (hf.get 6 _ rfl)).cons (hf.get 0 _ rfl)), hs⟩
  · replace h := h.2 hc
    refine wp_exit ?_
    refine X.then_exit ?_
    refine X.then_exit ?_
    refine X.blk_exit ?_
    refine X.then_ ?_
    refine wp_seq ?_
    refine R.list ?_
    refine S.val hf hs (v := .string (ba s_)) rfl rfl rfl (V.pure rfl) (fun a hf => ?_)
    refine S.val hf hs (v := .int .i64 (s_.length : Int)) rfl rfl rfl (V.lenStr rfl rfl Try.runUnderlying9) (fun a hf => ?_)
    refine S.val hf hs (v := .bool (decide ((s_.length : Int) ≥ 1))) rfl rfl rfl (V.pure rfl) (fun a hf => ?_)
    refine S.split hf hs (b := decide ((s_.length : Int) ≥ 1)) rfl rfl rfl (V.pure rfl) (fun hc a hf => ?_) (fun hc a hf => ?_)
    · replace h := h.1 hc
      refine S.val hf hs (v := .string (ba s_)) rfl rfl rfl (V.pure rfl) (fun a hf => ?_)
      refine S.val hf hs (v := .int .i64 (s_.length : Int)) rfl rfl rfl (V.lenStr rfl rfl Try.runUnderlying9) (fun a hf => ?_)
      refine S.val hf hs (v := .bool (decide ((s_.length : Int) ≤ 40))) rfl rfl rfl (V.pure rfl) (fun a hf => ?_)
      refine S.val hf hs (v := .bool (decide ((s_.length : Int) ≤ 40))) rfl rfl rfl (V.pure rfl) (fun a hf => ?_)
      refine S.val hf hs (v := .bool (decide ((s_.length : Int) ≤ 40))) rfl rfl rfl (V.pure rfl) (fun a hf => ?_)
      refine R.nil ?_
      refine X.then_ ?_
      refine wp_ret ?_
      exact L.ret hf (run_results1 Try.results88 (ResIs.tmp hf rfl)) ⟨(decide ((s_.length : Int) ≤ 40)), rfl, h, hs.nil⟩
    · replace h := h.2 hc
      refine S.skip hf rfl rfl rfl (fun a hf => ?_)
      refine S.skip hf rfl rfl rfl (fun a hf => ?_)
      refine S.skip hf rfl rfl rfl (fun a hf => ?_)
      refine S.val hf hs (v := .bool false) rfl rfl rfl (V.pure rfl) (fun a hf => ?_)
      refine S.val hf hs (v := .bool false) rfl rfl rfl (V.pure rfl) (fun a hf => ?_)
      refine R.nil ?_
      refine X.then_ ?_
      refine wp_ret ?_
      exact L.ret hf (run_results1 Try.results88 (ResIs.tmp hf rfl)) ⟨false, rfl, h, hs.nil⟩

set_option linter.unusedVariables false
def M_ref8_isWord_k2 (Q : Bool → Prop) (n2 : Int) (again1 : Int → Prop) (c1 : Bool) : Prop :=
  cnd c1 (Q false) (again1 (w64 (n2 + 1)))
def M_ref8_isWord_L1 (s_ : Str) (Q : Bool → Prop) (again1 : Int → Prop) (n2 : Int) : Prop :=
  cnd (decide (n2 < (s_.length : Int))) (idx s_ n2 fun x1 => cnd (decide ((x1.toNat : Int) < 97)) (cnd (decide ((x1.toNat : Int) < 65)) (cnd (decide ((x1.toNat : Int) < 48)) (M_ref8_isWord_k2 Q n2 again1 (decide ((byteAt [95, 43, 45, 35] (x1.toNat : Int)) < 0))) (cnd (decide ((x1.toNat : Int) > 57)) (M_ref8_isWord_k2 Q n2 again1 (decide ((byteAt [95, 43, 45, 35] (x1.toNat : Int)) < 0))) (M_ref8_isWord_k2 Q n2 again1 false))) (cnd (decide ((x1.toNat : Int) > 90)) (cnd (decide ((x1.toNat : Int) < 48)) (M_ref8_isWord_k2 Q n2 again1 (decide ((byteAt [95, 43, 45, 35] (x1.toNat : Int)) < 0))) (cnd (decide ((x1.toNat : Int) > 57)) (M_ref8_isWord_k2 Q n2 again1 (decide ((byteAt [95, 43, 45, 35] (x1.toNat : Int)) < 0))) (M_ref8_isWord_k2 Q n2 again1 false))) (M_ref8_isWord_k2 Q n2 again1 false))) (cnd (decide ((x1.toNat : Int) > 122)) (cnd (decide ((x1.toNat : Int) < 65)) (cnd (decide ((x1.toNat : Int) < 48)) (M_ref8_isWord_k2 Q n2 again1 (decide ((byteAt [95, 43, 45, 35] (x1.toNat : Int)) < 0))) (cnd (decide ((x1.toNat : Int) > 57)) (M_ref8_isWord_k2 Q n2 again1 (decide ((byteAt [95, 43, 45, 35] (x1.toNat : Int)) < 0))) (M_ref8_isWord_k2 Q n2 again1 false))) (cnd (decide ((x1.toNat : Int) > 90)) (cnd (decide ((x1.toNat : Int) < 48)) (M_ref8_isWord_k2 Q n2 again1 (decide ((byteAt [95, 43, 45, 35] (x1.toNat : Int)) < 0))) (cnd (decide ((x1.toNat : Int) > 57)) (M_ref8_isWord_k2 Q n2 again1 (decide ((byteAt [95, 43, 45, 35] (x1.toNat : Int)) < 0))) (M_ref8_isWord_k2 Q n2 again1 false))) (M_ref8_isWord_k2 Q n2 again1 false))) (M_ref8_isWord_k2 Q n2 again1 false))) (Q (within (s_.length : Int) 1 40))
def M_ref8_isWord (s_ : Str) (Q : Bool → Prop) : Prop :=
  lp (fun again (s : Int) => M_ref8_isWord_L1 s_ Q (fun n2 => again n2) s) 0
set_option maxHeartbeats 1000000 in
theorem R_ref8_isWord (s_ : Str) (w0 : World)  (Q : Bool → Prop) (h : M_ref8_isWord s_ Q) :
    Ret Try.prog 92 #[.string (ba s_)] w0 fun v w' => ∃ (r0 : Bool), v = .bool r0 ∧ Q r0 ∧ Sat w0 none_ [] w' := by
  refine fn_enter Try.func92 rfl Try.ntmps92 rfl (fs := [(0, .string (ba s_))]) rfl (fun a hf => ?_)
  have hs := Sat.start w0 none_
  unfold M_ref8_isWord at h
  refine wp_seq ?_
  refine R.list ?_
  refine S.val hf hs (v := .bool false) rfl rfl rfl (V.pure rfl) (fun a hf => ?_)
  refine R.nil ?_
  refine X.then_ ?_
  refine wp_seq ?_
  refine wp_seq ?_
  refine R.list ?_
  refine S.val hf hs (v := .string (ba s_)) rfl rfl rfl (V.pure rfl) (fun a hf => ?_)
  refine S.val hf hs (v := .int .i64 (s_.length : Int)) rfl rfl rfl (V.lenStr rfl rfl Try.runUnderlying9) (fun a hf => ?_)
  refine S.val hf hs (v := .int .i64 0) rfl rfl rfl (V.pure rfl) (fun a hf => ?_)
  refine R.nil ?_
  refine X.then_ ?_
  refine wp_block ?_
  obtain ⟨kk, h⟩ := h
  refine C.loop (fun kk a w => ∃ (n2 : Int), iterF (fun again (s : Int) => M_ref8_isWord_L1 s_ Q (fun n2 => again n2) s) kk n2 ∧ FrOk 44 [(0, .string (ba s_)), (6, .int .i64 (s_.length : Int)), (7, .int .i64 n2)] a ∧ Sat w0 none_ [] w) kk ⟨0, h, (((hf.nil.cons (hf.get 7 _ rfl)).cons (hf.get 6 _ rfl)).cons (hf.get 0 _ rfl)), hs⟩ (fun a w ⟨_, h, _, _⟩ => h) ?_
  clear h hf hs
  rintro kk a w ⟨n2, h, hf, hs⟩
  obtain ⟨again1, hagain1⟩ : ∃ X : Int → Prop, X = (fun n2 => iterF (fun again (s : Int) => M_ref8_isWord_L1 s_ Q (fun n2 => again n2) s) kk n2) := ⟨_, rfl⟩
  replace h : M_ref8_isWord_L1 s_ Q again1 n2 := by rw [hagain1]; exact h
  unfold M_ref8_isWord_L1 at h
  refine wp_seq ?_
  refine R.list ?_
  refine S.val hf hs (v := .bool (decide (n2 < (s_.length : Int)))) rfl rfl rfl (V.pure rfl) (fun a hf => ?_)
  refine R.nil ?_
  refine X.then_ ?_
  refine wp_seq ?_
  refine C.cond hf (b := decide (n2 < (s_.length : Int))) rfl (fun hc => ?_) (fun hc => ?_)
  · replace h := h.1 hc
    refine wp_skip ?_
    refine X.then_ ?_
    refine wp_seq ?_
    refine wp_block ?_
    refine wp_seq ?_
    refine R.list ?_
    refine S.val hf hs (v := .int .i64 n2) rfl rfl rfl (V.pure rfl) (fun a hf => ?_)
    refine S.val hf hs (v := .int .i64 n2) rfl rfl rfl (V.pure rfl) (fun a hf => ?_)
    refine R.nil ?_
    refine X.then_ ?_
    refine wp_seq ?_
    refine R.list ?_
    refine S.val hf hs (v := .string (ba s_)) rfl rfl rfl (V.pure rfl) (fun a hf => ?_)
    refine S.val hf hs (v := .int .i64 n2) rfl rfl rfl (V.pure rfl) (fun a hf => ?_)
    obtain ⟨h0x1, x1, hx1, h⟩ := h
    refine S.val hf hs (v := .int .u8 (x1.toNat : Int)) rfl rfl rfl (V.indexStr rfl rfl rfl Try.runUnderlying9 h0x1 hx1) (fun a hf => ?_)
    refine S.val hf hs (v := .int .u8 (x1.toNat : Int)) rfl rfl rfl (V.pure rfl) (fun a hf => ?_)
    refine R.nil ?_
    refine X.then_ ?_
    refine wp_seq ?_
    refine C.cut (J := fun a w => ∃ (c1 : Bool), M_ref8_isWord_k2 Q n2 again1 c1 ∧ FrOk 44 [(0, .string (ba s_)), (6, .int .i64 (s_.length : Int)), (7, .int .i64 n2), (39, .bool c1)] a ∧ Sat w0 none_ [] w) ?_ ?_
    · rintro a w ⟨c1, h, hf, hs⟩
      unfold M_ref8_isWord_k2 at h
      refine C.cond hf (b := c1) rfl (fun hc => ?_) (fun hc => ?_)
      · replace h := h.1 hc
        refine wp_seq ?_
        refine R.list ?_
        refine S.val hf hs (v := .bool false) rfl rfl rfl (V.pure rfl) (fun a hf => ?_)
        refine R.nil ?_
        refine X.then_ ?_
        refine wp_ret ?_
        refine X.blk_ret ?_
        refine X.then_ret ?_
        refine X.then_ret ?_
        refine X.blk_ret ?_
        refine X.then_ret ?_
        exact L.ret hf (run_results1 Try.results92 (ResIs.tmp hf rfl)) ⟨false, rfl, h, hs.nil⟩
      · replace h := h.2 hc
        refine wp_skip ?_
        refine X.blk ?_
        refine X.then_ ?_
        refine R.list ?_
        refine S.val hf hs (v := .int .i64 (w64 (n2 + 1))) rfl rfl rfl (V.pure rfl) (fun a hf => ?_)
        refine S.val hf hs (v := .int .i64 (w64 (n2 + 1))) rfl rfl rfl (V.pure rfl) (fun a hf => ?_)
        refine R.nil ?_
        refine X.then_ ?_
        exact ⟨(w64 (n2 + 1)), (by rw [hagain1] at h; exact h), (((hf.nil.cons (hf.get 7 _ rfl)).cons (hf.get 6 _ rfl)).cons (hf.get 0 _ rfl)), hs⟩
    · skip
      refine R.list ?_
      refine S.val hf hs (v := .int .u8 (x1.toNat : Int)) rfl rfl rfl (V.pure rfl) (fun a hf => ?_)
      refine S.val hf hs (v := .bool (decide ((x1.toNat : Int) < 97))) rfl rfl rfl (V.pure rfl) (fun a hf => ?_)
      refine S.split hf hs (b := decide ((x1.toNat : Int) < 97)) rfl rfl rfl (V.pure rfl) (fun hc a hf => ?_) (fun hc a hf => ?_)
      · replace h := h.1 hc
        refine S.skip hf rfl rfl rfl (fun a hf => ?_)
        refine S.skip hf rfl rfl rfl (fun a hf => ?_)
        refine S.val hf hs (v := .bool true) rfl rfl rfl (V.pure rfl) (fun a hf => ?_)
        refine S.val hf hs (v := .bool true) rfl rfl rfl (V.pure rfl) (fun a hf => ?_)
        refine S.val hf hs (v := .int .u8 (x1.toNat : Int)) rfl rfl rfl (V.pure rfl) (fun a hf => ?_)
        refine S.val hf hs (v := .bool (decide ((x1.toNat : Int) < 65))) rfl rfl rfl (V.pure rfl) (fun a hf => ?_)
        refine S.split hf hs (b := decide ((x1.toNat : Int) < 65)) rfl rfl rfl (V.pure rfl) (fun hc a hf => ?_) (fun hc a hf => ?_)
        · replace h := h.1 hc
          refine S.skip hf rfl rfl rfl (fun a hf => ?_)
          refine S.skip hf rfl rfl rfl (fun a hf => ?_)
          refine S.val hf hs (v := .bool true) rfl rfl rfl (V.pure rfl) (fun a hf => ?_)
          refine S.val hf hs (v := .bool true) rfl rfl rfl (V.pure rfl) (fun a hf => ?_)
          refine S.val hf hs (v := .bool true) rfl rfl rfl (V.pure rfl) (fun a hf => ?_)
          refine S.val hf hs (v := .int .u8 (x1.toNat : Int)) rfl rfl rfl (V.pure rfl) (fun a hf => ?_)
          refine S.val hf hs (v := .bool (decide ((x1.toNat : Int) < 48))) rfl rfl rfl (V.pure rfl) (fun a hf => ?_)
          refine S.split hf hs (b := decide ((x1.toNat : Int) < 48)) rfl rfl rfl (V.pure rfl) (fun hc a hf => ?_) (fun hc a hf => ?_)
          · replace h := h.1 hc
            refine S.skip hf rfl rfl rfl (fun a hf => ?_)
            refine S.skip hf rfl rfl rfl (fun a hf => ?_)
            refine S.val hf hs (v := .bool true) rfl rfl rfl (V.pure rfl) (fun a hf => ?_)
            refine S.val hf hs (v := .bool true) rfl rfl rfl (V.pure rfl) (fun a hf => ?_)
            refine S.val hf hs (v := .bool true) rfl rfl rfl (V.pure rfl) (fun a hf => ?_)
            refine S.val hf hs (v := .int .u8 (x1.toNat : Int)) rfl rfl rfl (V.pure rfl) (fun a hf => ?_)
            refine S.callv hf rfl rfl rfl (call_fn (vs := [.string (ba [95, 43, 45, 35]), .int .u8 (x1.toNat : Int)]) rfl rfl rfl Try.call99) (C_strings_IndexByte [95, 43, 45, 35] (x1.toNat : Int) _ ) (fun a w hf hs' => ?_)
            replace hs := hs.call hs'; clear hs'
            refine S.val hf hs (v := .bool (decide ((byteAt [95, 43, 45, 35] (x1.toNat : Int)) < 0))) rfl rfl rfl (V.pure rfl) (fun a hf => ?_)
            refine S.val hf hs (v := .bool (decide ((byteAt [95, 43, 45, 35] (x1.toNat : Int)) < 0))) rfl rfl rfl (V.pure rfl) (fun a hf => ?_)
            refine R.nil ?_
            refine X.then_ ?_
            exact ⟨(decide ((byteAt [95, 43, 45, 35] (x1.toNat : Int)) < 0)), h, ((((hf.nil.cons (hf.get 39 _ rfl)).cons (hf.get 7 _ rfl)).cons (hf.get 6 _ rfl)).cons (hf.get 0 _ rfl)), hs⟩
          · replace h := h.2 hc
            refine S.val hf hs (v := .int .u8 (x1.toNat : Int)) rfl rfl rfl (V.pure rfl) (fun a hf => ?_)
            refine S.val hf hs (v := .bool (decide ((x1.toNat : Int) > 57))) rfl rfl rfl (V.pure rfl) (fun a hf => ?_)
            refine S.val hf hs (v := .bool (decide ((x1.toNat : Int) > 57))) rfl rfl rfl (V.pure rfl) (fun a hf => ?_)
            refine S.val hf hs (v := .bool (decide ((x1.toNat : Int) > 57))) rfl rfl rfl (V.pure rfl) (fun a hf => ?_)
            refine S.split hf hs (b := decide ((x1.toNat : Int) > 57)) rfl rfl rfl (V.pure rfl) (fun hc a hf => ?_) (fun hc a hf => ?_)
            · replace h := h.1 hc
              refine S.val hf hs (v := .int .u8 (x1.toNat : Int)) rfl rfl rfl (V.pure rfl) (fun a hf => ?_)
              refine S.callv hf rfl rfl rfl (call_fn (vs := [.string (ba [95, 43, 45, 35]), .int .u8 (x1.toNat : Int)]) rfl rfl rfl Try.call99) (C_strings_IndexByte [95, 43, 45, 35] (x1.toNat : Int) _ ) (fun a w hf hs' => ?_)
              replace hs := hs.call hs'; clear hs'
              refine S.val hf hs (v := .bool (decide ((byteAt [95, 43, 45, 35] (x1.toNat : Int)) < 0))) rfl rfl rfl (V.pure rfl) (fun a hf => ?_)
              refine S.val hf hs (v := .bool (decide ((byteAt [95, 43, 45, 35] (x1.toNat : Int)) < 0))) rfl rfl rfl (V.pure rfl) (fun a hf => ?_)
              refine R.nil ?_
              refine X.then_ ?_
              exact ⟨(decide ((byteAt [95, 43, 45, 35] (x1.toNat : Int)) < 0)), h, ((((hf.nil.cons (hf.get 39 _ rfl)).cons (hf.get 7 _ rfl)).cons (hf.get 6 _ rfl)).cons (hf.get 0 _ rfl)), hs⟩
            · replace h := h.2 hc
              refine S.skip hf rfl rfl rfl (fun a hf => ?_)
              refine S.skip hf rfl rfl rfl (fun a hf => ?_)
              refine S.skip hf rfl rfl rfl (fun a hf => ?_)
              refine S.val hf hs (v := .bool false) rfl rfl rfl (V.pure rfl) (fun a hf => ?_)
              refine R.nil ?_
              refine X.then_ ?_
              exact ⟨false, h, ((((hf.nil.cons (hf.get 39 _ rfl)).cons (hf.get 7 _ rfl)).cons (hf.get 6 _ rfl)).cons (hf.get 0 _ rfl)), hs⟩
        · replace h := h.2 hc
          refine S.val hf hs (v := .int .u8 (x1.toNat : Int)) rfl rfl rfl (V.pure rfl) (fun a hf => ?_)
          refine S.val hf hs (v := .bool (decide ((x1.toNat : Int) > 90))) rfl rfl rfl (V.pure rfl) (fun a hf => ?_)
          refine S.val hf hs (v := .bool (decide ((x1.toNat : Int) > 90))) rfl rfl rfl (V.pure rfl) (fun a hf => ?_)
          refine S.val hf hs (v := .bool (decide ((x1.toNat : Int) > 90))) rfl rfl rfl (V.pure rfl) (fun a hf => ?_)
          refine S.split hf hs (b := decide ((x1.toNat : Int) > 90)) rfl rfl rfl (V.pure rfl) (fun hc a hf => ?_) (fun hc a hf => ?_)
          · replace h := h.1 hc
            refine S.val hf hs (v := .int .u8 (x1.toNat : Int)) rfl rfl rfl (V.pure rfl) (fun a hf => ?_)
            refine S.val hf hs (v := .bool (decide ((x1.toNat : Int) < 48))) rfl rfl rfl (V.pure rfl) (fun a hf => ?_)
            refine S.split hf hs (b := decide ((x1.toNat : Int) < 48)) rfl rfl rfl (V.pure rfl) (fun hc a hf => ?_) (fun hc a hf => ?_)
            · replace h := h.1 hc
              refine S.skip hf rfl rfl rfl (fun a hf => ?_)
              refine S.skip hf rfl rfl rfl (fun a hf => ?_)
              refine S.val hf hs (v := .bool true) rfl rfl rfl (V.pure rfl) (fun a hf => ?_)
              refine S.val hf hs (v := .bool true) rfl rfl rfl (V.pure rfl) (fun a hf => ?_)
              refine S.val hf hs (v := .bool true) rfl rfl rfl (V.pure rfl) (fun a hf => ?_)
              refine S.val hf hs (v := .int .u8 (x1.toNat : Int)) rfl rfl rfl (V.pure rfl) (fun a hf => ?_)
              refine S.callv hf rfl rfl rfl (call_fn (vs := [.string (ba [95, 43, 45, 35]), .int .u8 (x1.toNat : Int)]) rfl rfl rfl Try.call99) (C_strings_IndexByte [95, 43, 45, 35] (x1.toNat : Int) _ ) (fun a w hf hs' => ?_)
              replace hs := hs.call hs'; clear hs'
              refine S.val hf hs (v := .bool (decide ((byteAt [95, 43, 45, 35] (x1.toNat : Int)) < 0))) rfl rfl rfl (V.pure rfl) (fun a hf => ?_)
              refine S.val hf hs (v := .bool (decide ((byteAt [95, 43, 45, 35] (x1.toNat : Int)) < 0))) rfl rfl rfl (V.pure rfl) (fun a hf => ?_)
              refine R.nil ?_
              refine X.then_ ?_
              exact ⟨(decide ((byteAt [95, 43, 45, 35] (x1.toNat : Int)) < 0)), h, ((((hf.nil.cons (hf.get 39 _ rfl)).cons (hf.get 7 _ rfl)).cons (hf.get 6 _ rfl)).cons (hf.get 0 _ rfl)), hs⟩
            · replace h := h.2 hc
              refine S.val hf hs (v := .int .u8 (x1.toNat : Int)) rfl rfl rfl (V.pure rfl) (fun a hf => ?_)
              refine S.val hf hs (v := .bool (decide ((x1.toNat : Int) > 57))) rfl rfl rfl (V.pure rfl) (fun a hf => ?_)
              refine S.val hf hs (v := .bool (decide ((x1.toNat : Int) > 57))) rfl rfl rfl (V.pure rfl) (fun a hf => ?_)
              refine S.val hf hs (v := .bool (decide ((x1.toNat : Int) > 57))) rfl rfl rfl (V.pure rfl) (fun a hf => ?_)
              refine S.split hf hs (b := decide ((x1.toNat : Int) > 57)) rfl rfl rfl (V.pure rfl) (fun hc a hf => ?_) (fun hc a hf => ?_)
              · replace h := h.1 hc
                refine S.val hf hs (v := .int .u8 (x1.toNat : Int)) rfl rfl rfl (V.pure rfl) (fun a hf => ?_)
                refine S.callv hf rfl rfl rfl (call_fn (vs := [.string (ba [95, 43, 45, 35]), .int .u8 (x1.toNat : Int)]) rfl rfl rfl Try.call99) (C_strings_IndexByte [95, 43, 45, 35] (x1.toNat : Int) _ ) (fun a w hf hs' => ?_)
                replace hs := hs.call hs'; clear hs'
                refine S.val hf hs (v := .bool (decide ((byteAt [95, 43, 45, 35] (x1.toNat : Int)) < 0))) rfl rfl rfl (V.pure rfl) (fun a hf => ?_)
                refine S.val hf hs (v := .bool (decide ((byteAt [95, 43, 45, 35] (x1.toNat : Int)) < 0))) rfl rfl rfl (V.pure rfl) (fun a hf => ?_)
                refine R.nil ?_
                refine X.then_ ?_
                exact ⟨(decide ((byteAt [95, 43, 45, 35] (x1.toNat : Int)) < 0)), h, ((((hf.nil.cons (hf.get 39 _ rfl)).cons (hf.get 7 _ rfl)).cons (hf.get 6 _ rfl)).cons (hf.get 0 _ rfl)), hs⟩
              · replace h := h.2 hc
                refine S.skip hf rfl rfl rfl (fun a hf => ?_)
                refine S.skip hf rfl rfl rfl (fun a hf => ?_)
                refine S.skip hf rfl rfl rfl (fun a hf => ?_)
                refine S.val hf hs (v := .bool false) rfl rfl rfl (V.pure rfl) (fun a hf => ?_)
                refine R.nil ?_
                refine X.then_ ?_
                exact ⟨false, h, ((((hf.nil.cons (hf.get 39 _ rfl)).cons (hf.get 7 _ rfl)).cons (hf.get 6 _ rfl)).cons (hf.get 0 _ rfl)), hs⟩
          · replace h := h.2 hc
            refine S.skip hf rfl rfl rfl (fun a hf => ?_)
            refine S.skip hf rfl rfl rfl (fun a hf => ?_)
            refine S.skip hf rfl rfl rfl (fun a hf => ?_)
            refine S.skip hf rfl rfl rfl (fun a hf => ?_)
            refine S.skip hf rfl rfl rfl (fun a hf => ?_)
            refine S.skip hf rfl rfl rfl (fun a hf => ?_)
            refine S.val hf hs (v := .bool false) rfl rfl rfl (V.pure rfl) (fun a hf => ?_)
            refine S.val hf hs (v := .bool false) rfl rfl rfl (V.pure rfl) (fun a hf => ?_)
            refine S.skip hf rfl rfl rfl (fun a hf => ?_)
            refine S.skip hf rfl rfl rfl (fun a hf => ?_)
            refine S.skip hf rfl rfl rfl (fun a hf => ?_)
            refine S.val hf hs (v := .bool false) rfl rfl rfl (V.pure rfl) (fun a hf => ?_)
            refine R.nil ?_
            refine X.then_ ?_
            exact ⟨false, h, ((((hf.nil.cons (hf.get 39 _ rfl)).cons (hf.get 7 _ rfl)).cons (hf.get 6 _ rfl)).cons (hf.get 0 _ rfl)), hs⟩
      · replace h := h.2 hc
        refine S.val hf hs (v := .int .u8 (x1.toNat : Int)) rfl rfl rfl (V.pure rfl) (fun a hf => ?_)
        refine S.val hf hs (v := .bool (decide ((x1.toNat : Int) > 122))) rfl rfl rfl (V.pure rfl) (fun a hf => ?_)
        refine S.val hf hs (v := .bool (decide ((x1.toNat : Int) > 122))) rfl rfl rfl (V.pure rfl) (fun a hf => ?_)
        refine S.split hf hs (b := decide ((x1.toNat : Int) > 122)) rfl rfl rfl (V.pure rfl) (fun hc a hf => ?_) (fun hc a hf => ?_)
        · replace h := h.1 hc
          refine S.val hf hs (v := .int .u8 (x1.toNat : Int)) rfl rfl rfl (V.pure rfl) (fun a hf => ?_)
          refine S.val hf hs (v := .bool (decide ((x1.toNat : Int) < 65))) rfl rfl rfl (V.pure rfl) (fun a hf => ?_)
          refine S.split hf hs (b := decide ((x1.toNat : Int) < 65)) rfl rfl rfl (V.pure rfl) (fun hc a hf => ?_) (fun hc a hf => ?_)
          · replace h := h.1 hc
            refine S.skip hf rfl rfl rfl (fun a hf => ?_)
            refine S.skip hf rfl rfl rfl (fun a hf => ?_)
            refine S.val hf hs (v := .bool true) rfl rfl rfl (V.pure rfl) (fun a hf => ?_)
            refine S.val hf hs (v := .bool true) rfl rfl rfl (V.pure rfl) (fun a hf => ?_)
            refine S.val hf hs (v := .bool true) rfl rfl rfl (V.pure rfl) (fun a hf => ?_)
            refine S.val hf hs (v := .int .u8 (x1.toNat : Int)) rfl rfl rfl (V.pure rfl) (fun a hf => ?_)
            refine S.val hf hs (v := .bool (decide ((x1.toNat : Int) < 48))) rfl rfl rfl (V.pure rfl) (fun a hf => ?_)
            refine S.split hf hs (b := decide ((x1.toNat : Int) < 48)) rfl rfl rfl (V.pure rfl) (fun hc a hf => ?_) (fun hc a hf => ?_)
            · replace h := h.1 hc
              refine S.skip hf rfl rfl rfl (fun a hf => ?_)
              refine S.skip hf rfl rfl rfl (fun a hf => ?_)
              refine S.val hf hs (v := .bool true) rfl rfl rfl (V.pure rfl) (fun a hf => ?_)
              refine S.val hf hs (v := .bool true) rfl rfl rfl (V.pure rfl) (fun a hf => ?_)
              refine S.val hf hs (v := .bool true) rfl rfl rfl (V.pure rfl) (fun a hf => ?_)
              refine S.val hf hs (v := .int .u8 (x1.toNat : Int)) rfl rfl rfl (V.pure rfl) (fun a hf => ?_)
              refine S.callv hf rfl rfl rfl (call_fn (vs := [.string (ba [95, 43, 45, 35]), .int .u8 (x1.toNat : Int)]) rfl rfl rfl Try.call99) (C_strings_IndexByte [95, 43, 45, 35] (x1.toNat : Int) _ ) (fun a w hf hs' => ?_)
              replace hs := hs.call hs'; clear hs'
              refine S.val hf hs (v := .bool (decide ((byteAt [95, 43, 45, 35] (x1.toNat : Int)) < 0))) rfl rfl rfl (V.pure rfl) (fun a hf => ?_)
              refine S.val hf hs (v := .bool (decide ((byteAt [95, 43, 45, 35] (x1.toNat : Int)) < 0))) rfl rfl rfl (V.pure rfl) (fun a hf => ?_)
              refine R.nil ?_
              refine X.then_ ?_
              exact ⟨(decide ((byteAt [95, 43, 45, 35] (x1.toNat : Int)) < 0)), h, ((((hf.nil.cons (hf.get 39 _ rfl)).cons (hf.get 7 _ rfl)).cons (hf.get 6 _ rfl)).cons (hf.get 0 _ rfl)), hs⟩
            · replace h := h.2 hc
              refine S.val hf hs (v := .int .u8 (x1.toNat : Int)) rfl rfl rfl (V.pure rfl) (fun a hf => ?_)
              refine S.val hf hs (v := .bool (decide ((x1.toNat : Int) > 57))) rfl rfl rfl (V.pure rfl) (fun a hf => ?_)
              refine S.val hf hs (v := .bool (decide ((x1.toNat : Int) > 57))) rfl rfl rfl (V.pure rfl) (fun a hf => ?_)
              refine S.val hf hs (v := .bool (decide ((x1.toNat : Int) > 57))) rfl rfl rfl (V.pure rfl) (fun a hf => ?_)
              refine S.split hf hs (b := decide ((x1.toNat : Int) > 57)) rfl rfl rfl (V.pure rfl) (fun hc a hf => ?_) (fun hc a hf => ?_)
              · replace h := h.1 hc
                refine S.val hf hs (v := .int .u8 (x1.toNat : Int)) rfl rfl rfl (V.pure rfl) (fun a hf => ?_)
                refine S.callv hf rfl rfl rfl (call_fn (vs := [.string (ba [95, 43, 45, 35]), .int .u8 (x1.toNat : Int)]) rfl rfl rfl Try.call99) (C_strings_IndexByte [95, 43, 45, 35] (x1.toNat : Int) _ ) (fun a w hf hs' => ?_)
                replace hs := hs.call hs'; clear hs'
                refine S.val hf hs (v := .bool (decide ((byteAt [95, 43, 45, 35] (x1.toNat : Int)) < 0))) rfl rfl rfl (V.pure rfl) (fun a hf => ?_)
                refine S.val hf hs (v := .bool (decide ((byteAt [95, 43, 45, 35] (x1.toNat : Int)) < 0))) rfl rfl rfl (V.pure rfl) (fun a hf => ?_)
                refine R.nil ?_
                refine X.then_ ?_
                exact ⟨(decide ((byteAt [95, 43, 45, 35] (x1.toNat : Int)) < 0)), h, ((((hf.nil.cons (hf.get 39 _ rfl)).cons (hf.get 7 _ rfl)).cons (hf.get 6 _ rfl)).cons (hf.get 0 _ rfl)), hs⟩
              · replace h := h.2 hc
                refine S.skip hf rfl rfl rfl (fun a hf => ?_)
                refine S.skip hf rfl rfl rfl (fun a hf => ?_)
                refine S.skip hf rfl rfl rfl (fun a hf => ?_)
                refine S.val hf hs (v := .bool false) rfl rfl rfl (V.pure rfl) (fun a hf => ?_)
                refine R.nil ?_
                refine X.then_ ?_
                exact ⟨false, h, ((((hf.nil.cons (hf.get 39 _ rfl)).cons (hf.get 7 _ rfl)).cons (hf.get 6 _ rfl)).cons (hf.get 0 _ rfl)), hs⟩
          · replace h := h.2 hc
            refine S.val hf hs (v := .int .u8 (x1.toNat : Int)) rfl rfl rfl (V.pure rfl) (fun a hf => ?_)
            refine S.val hf hs (v := .bool (decide ((x1.toNat : Int) > 90))) rfl rfl rfl (V.pure rfl) (fun a hf => ?_)
            refine S.val hf hs (v := .bool (decide ((x1.toNat : Int) > 90))) rfl rfl rfl (V.pure rfl) (fun a hf => ?_)
            refine S.val hf hs (v := .bool (decide ((x1.toNat : Int) > 90))) rfl rfl rfl (V.pure rfl) (fun a hf => ?_)
            refine S.split hf hs (b := decide ((x1.toNat : Int) > 90)) rfl rfl rfl (V.pure rfl) (fun hc a hf => ?_) (fun hc a hf => ?_)
            · replace h := h.1 hc
              refine S.val hf hs (v := .int .u8 (x1.toNat : Int)) rfl rfl rfl (V.pure rfl) (fun a hf => ?_)
              refine S.val hf hs (v := .bool (decide ((x1.toNat : Int) < 48))) rfl rfl rfl (V.pure rfl) (fun a hf => ?_)
              refine S.split hf hs (b := decide ((x1.toNat : Int) < 48)) rfl rfl rfl (V.pure rfl) (fun hc a hf => ?_) (fun hc a hf => ?_)
              · replace h := h.1 hc
                refine S.skip hf rfl rfl rfl (fun a hf => ?_)
                refine S.skip hf rfl rfl rfl (fun a hf => ?_)
                refine S.val hf hs (v := .bool true) rfl rfl rfl (V.pure rfl) (fun a hf => ?_)
                refine S.val hf hs (v := .bool true) rfl rfl rfl (V.pure rfl) (fun a hf => ?_)
                refine S.val hf hs (v := .bool true) rfl rfl rfl (V.pure rfl) (fun a hf => ?_)
                refine S.val hf hs (v := .int .u8 (x1.toNat : Int)) rfl rfl rfl (V.pure rfl) (fun a hf => ?_)
                refine S.callv hf rfl rfl rfl (call_fn (vs := [.string (ba [95, 43, 45, 35]), .int .u8 (x1.toNat : Int)]) rfl rfl rfl Try.call99) (C_strings_IndexByte [95, 43, 45, 35] (x1.toNat : Int) _ ) (fun a w hf hs' => ?_)
                replace hs := hs.call hs'; clear hs'
                refine S.val hf hs (v := .bool (decide ((byteAt [95, 43, 45, 35] (x1.toNat : Int)) < 0))) rfl rfl rfl (V.pure rfl) (fun a hf => ?_)
                refine S.val hf hs (v := .bool (decide ((byteAt [95, 43, 45, 35] (x1.toNat : Int)) < 0))) rfl rfl rfl (V.pure rfl) (fun a hf => ?_)
                refine R.nil ?_
                refine X.then_ ?_
                exact ⟨(decide ((byteAt [95, 43, 45, 35] (x1.toNat : Int)) < 0)), h, ((((hf.nil.cons (hf.get 39 _ rfl)).cons (hf.get 7 _ rfl)).cons (hf.get 6 _ rfl)).cons (hf.get 0 _ rfl)), hs⟩
              · replace h := h.2 hc
                refine S.val hf hs (v := .int .u8 (x1.toNat : Int)) rfl rfl rfl (V.pure rfl) (fun a hf => ?_)
                refine S.val hf hs (v := .bool (decide ((x1.toNat : Int) > 57))) rfl rfl rfl (V.pure rfl) (fun a hf => ?_)
                refine S.val hf hs (v := .bool (decide ((x1.toNat : Int) > 57))) rfl rfl rfl (V.pure rfl) (fun a hf => ?_)
                refine S.val hf hs (v := .bool (decide ((x1.toNat : Int) > 57))) rfl rfl rfl (V.pure rfl) (fun a hf => ?_)
                refine S.split hf hs (b := decide ((x1.toNat : Int) > 57)) rfl rfl rfl (V.pure rfl) (fun hc a hf => ?_) (fun hc a hf => ?_)
                · replace h := h.1 hc
                  refine S.val hf hs (v := .int .u8 (x1.toNat : Int)) rfl rfl rfl (V.pure rfl) (fun a hf => ?_)
                  refine S.callv hf rfl rfl rfl (call_fn (vs := [.string (ba [95, 43, 45, 35]), .int .u8 (x1.toNat : Int)]) rfl rfl rfl Try.call99) (C_strings_IndexByte [95, 43, 45, 35] (x1.toNat : Int) _ ) (fun a w hf hs' => ?_)
                  replace hs := hs.call hs'; clear hs'
                  refine S.val hf hs (v := .bool (decide ((byteAt [95, 43, 45, 35] (x1.toNat : Int)) < 0))) rfl rfl rfl (V.pure rfl) (fun a hf => ?_)
                  refine S.val hf hs (v := .bool (decide ((byteAt [95, 43, 45, 35] (x1.toNat : Int)) < 0))) rfl rfl rfl (V.pure rfl) (fun a hf => ?_)
                  refine R.nil ?_
                  refine X.then_ ?_
                  exact ⟨(decide ((byteAt [95, 43, 45, 35] (x1.toNat : Int)) < 0)), h, ((((hf.nil.cons (hf.get 39 _ rfl)).cons (hf.get 7 _ rfl)).cons (hf.get 6 _ rfl)).cons (hf.get 0 _ rfl)), hs⟩
                · replace h := h.2 hc
                  refine S.skip hf rfl rfl rfl (fun a hf => ?_)
                  refine S.skip hf rfl rfl rfl (fun a hf => ?_)
                  refine S.skip hf rfl rfl rfl (fun a hf => ?_)
                  refine S.val hf hs (v := .bool false) rfl rfl rfl (V.pure rfl) (fun a hf => ?_)
                  refine R.nil ?_
                  refine X.then_ ?_
                  exact ⟨false, h, ((((hf.nil.cons (hf.get 39 _ rfl)).cons (hf.get 7 _ rfl)).cons (hf.get 6 _ rfl)).cons (hf.get 0 _ rfl)), hs⟩
            · replace h := h.2 hc
              refine S.skip hf rfl rfl rfl (fun a hf => ?_)
              refine S.skip hf rfl rfl rfl (fun a hf => ?_)
              refine S.skip hf rfl rfl rfl (fun a hf => ?_)
              refine S.skip hf rfl rfl rfl (fun a hf => ?_)
              refine S.skip hf rfl rfl rfl (fun a hf => ?_)
              refine S.skip hf rfl rfl rfl (fun a hf => ?_)
              refine S.val hf hs (v := .bool false) rfl rfl rfl (V.pure rfl) (fun a hf => ?_)
              refine S.val hf hs (v := .bool false) rfl rfl rfl (V.pure rfl) (fun a hf => ?_)
              refine S.skip hf rfl rfl rfl (fun a hf => ?_)
              refine S.skip hf rfl rfl rfl (fun a hf => ?_)
              refine S.skip hf rfl rfl rfl (fun a hf => ?_)
              refine S.val hf hs (v := .bool false) rfl rfl rfl (V.pure rfl) (fun a hf => ?_)
              refine R.nil ?_
              refine X.then_ ?_
              exact ⟨false, h, ((((hf.nil.cons (hf.get 39 _ rfl)).cons (hf.get 7 _ rfl)).cons (hf.get 6 _ rfl)).cons (hf.get 0 _ rfl)), hs⟩
        · replace h := h.2 hc
          refine S.skip hf rfl rfl rfl (fun a hf => ?_)
          refine S.skip hf rfl rfl rfl (fun a hf => ?_)
          refine S.skip hf rfl rfl rfl (fun a hf => ?_)
          refine S.skip hf rfl rfl rfl (fun a hf => ?_)
          refine S.skip hf rfl rfl rfl (fun a hf => ?_)
          refine S.skip hf rfl rfl rfl (fun a hf => ?_)
          refine S.val hf hs (v := .bool false) rfl rfl rfl (V.pure rfl) (fun a hf => ?_)
          refine S.val hf hs (v := .bool false) rfl rfl rfl (V.pure rfl) (fun a hf => ?_)
          refine S.skip hf rfl rfl rfl (fun a hf => ?_)
          refine S.skip hf rfl rfl rfl (fun a hf => ?_)
          refine S.skip hf rfl rfl rfl (fun a hf => ?_)
          refine S.skip hf rfl rfl rfl (fun a hf => ?_)
          refine S.skip hf rfl rfl rfl (fun a hf => ?_)
          refine S.skip hf rfl rfl rfl (fun a hf => ?_)
          refine S.val hf hs (v := .bool false) rfl rfl rfl (V.pure rfl) (fun a hf => ?_)
          refine S.val hf hs (v := .bool false) rfl rfl rfl (V.pure rfl) (fun a hf => ?_)
          refine S.skip hf rfl rfl rfl (fun a hf => ?_)
          refine S.skip hf rfl rfl rfl (fun a hf => ?_)
          refine S.skip hf rfl rfl rfl (fun a hf => ?_)
          refine S.val hf hs (v := .bool false) rfl rfl rfl (V.pure rfl) (fun a hf => ?_)
          refine R.nil ?_
          refine X.then_ ?_
          exact ⟨false, h, ((((hf.nil.cons (hf.get 39 _ rfl)).cons (hf.get 7 _ rfl)).cons (hf.get 6 _ rfl)).cons (hf.get 0 _ rfl)), hs⟩
  · replace h := h.2 hc
    refine wp_exit ?_
    refine X.then_exit ?_
    refine X.then_exit ?_
    refine X.blk_exit ?_
    refine X.then_ ?_
    refine wp_seq ?_
    refine R.list ?_
    refine S.val hf hs (v := .string (ba s_)) rfl rfl rfl (V.pure rfl) (fun a hf => ?_)
    refine S.val hf hs (v := .int .i64 (s_.length : Int)) rfl rfl rfl (V.lenStr rfl rfl Try.runUnderlying9) (fun a hf => ?_)
    refine S.callv hf rfl rfl rfl (call_fn (vs := [.int .i64 (s_.length : Int), .int .i64 1, .int .i64 40]) rfl rfl rfl Try.call59) (C_ref8_within (s_.length : Int) 1 40 _ ) (fun a w hf hs' => ?_)
    replace hs := hs.call hs'; clear hs'
    refine S.val hf hs (v := .bool (within (s_.length : Int) 1 40)) rfl rfl rfl (V.pure rfl) (fun a hf => ?_)
    refine R.nil ?_
    refine X.then_ ?_
    refine wp_ret ?_
    exact L.ret hf (run_results1 Try.results92 (ResIs.tmp hf rfl)) ⟨(within (s_.length : Int) 1 40), rfl, h, hs.nil⟩

set_option linter.unusedVariables false
def M_drill_CheckTools_k3 (Q : Int → Prop) (next1 : Prop) (c2 : Bool) : Prop :=
  cnd c2 (Q 8) (next1)
def M_drill_CheckTools_k2 (t : (List Bit)) (Q : Int → Prop) (k1 : Nat) (xk1 : Bit) (next1 : Prop) (c1 : Bool) : Prop :=
  cnd c1 (Q 1) (cnd (decide ((k1 : Int) > 0)) (idx t (w64 ((k1 : Int) - 1)) fun x1 => M_drill_CheckTools_k3 Q next1 (strLt xk1.Name x1.Name || xk1.Name == x1.Name)) (M_drill_CheckTools_k3 Q next1 false))
def M_drill_CheckTools_L1 (t : (List Bit)) (Q : Int → Prop) (k1 : Nat) (xk1 : Bit)  (next1 : Prop) : Prop :=
  M_netlist_IsWord xk1.Name fun y1 => cnd (!y1) (Q 5) (cnd (!(within xk1.Size 1 10000)) (M_drill_CheckTools_k2 t Q k1 xk1 next1 true) (cnd (!(within xk1.Life 1 2000)) (M_drill_CheckTools_k2 t Q k1 xk1 next1 true) (M_drill_CheckTools_k2 t Q k1 xk1 next1 (!(within xk1.Stack 0 1000)))))
def M_drill_CheckTools (t : (List Bit)) (Q : Int → Prop) : Prop :=
  cnd (decide ((t.length : Int) > 100)) (Q 2) (forIn' (fun k x (s : Unit) next => M_drill_CheckTools_L1 t Q k x (next ())) (fun (s : Unit) => Q 0) t 0 ())
set_option maxHeartbeats 1000000 in
theorem R_drill_CheckTools (t : (List Bit)) (w0 : World) (tA : Option Addr) (tC : Nat) (hv_t : View w0 (old w0 none_) tA tC t) (Q : Int → Prop) (h : M_drill_CheckTools t Q) :
    Ret Try.prog 68 #[.slice tA t.length tC] w0 fun v w' => ∃ (r0 : Int), v = .int .i64 r0 ∧ Q r0 ∧ Sat w0 none_ [] w' := by
  refine fn_enter Try.func68 rfl Try.ntmps68 rfl (fs := [(0, .slice tA t.length tC)]) rfl (fun a hf => ?_)
  have hs := Sat.start w0 none_
  unfold M_drill_CheckTools at h
  refine wp_seq ?_
  refine R.list ?_
  refine S.val hf hs (v := .int .i64 0) rfl rfl rfl (V.pure rfl) (fun a hf => ?_)
  refine R.nil ?_
  refine X.then_ ?_
  refine wp_seq ?_
  refine wp_seq ?_
  refine R.list ?_
  refine S.val hf hs (v := .slice tA t.length tC) rfl rfl rfl (V.pure rfl) (fun a hf => ?_)
  refine S.val hf hs (v := .int .i64 (t.length : Int)) rfl rfl rfl (V.len rfl rfl Try.runUnderlying48) (fun a hf => ?_)
  refine S.val hf hs (v := .bool (decide ((t.length : Int) > 100))) rfl rfl rfl (V.pure rfl) (fun a hf => ?_)
  refine R.nil ?_
  refine X.then_ ?_
  refine C.cond hf (b := decide ((t.length : Int) > 100)) rfl (fun hc => ?_) (fun hc => ?_)
  · replace h := h.1 hc
    refine wp_seq ?_
    refine R.list ?_
    refine S.val hf hs (v := .int .i64 2) rfl rfl rfl (V.pure rfl) (fun a hf => ?_)
    refine R.nil ?_
    refine X.then_ ?_
    refine wp_ret ?_
    refine X.then_ret ?_
    exact L.ret hf (run_results1 Try.results68 (ResIs.tmp hf rfl)) ⟨2, rfl, h, hs.nil⟩
  · replace h := h.2 hc
    refine wp_skip ?_
    refine X.then_ ?_
    refine wp_seq ?_
    refine wp_seq ?_
    refine R.list ?_
    refine S.val hf hs (v := .slice tA t.length tC) rfl rfl rfl (V.pure rfl) (fun a hf => ?_)
    refine S.val hf hs (v := .int .i64 (t.length : Int)) rfl rfl rfl (V.len rfl rfl Try.runUnderlying48) (fun a hf => ?_)
    refine S.val hf hs (v := .int .i64 0) rfl rfl rfl (V.pure rfl) (fun a hf => ?_)
    refine R.nil ?_
    refine X.then_ ?_
    refine wp_block ?_
    have hlenk1 := hv_t.len64
    refine C.range (fun (ll : List Bit) a w => ∃ (k1 : Nat) , t.drop k1 = ll ∧ k1 + ll.length = t.length ∧ forIn' (fun k x (s : Unit) next => M_drill_CheckTools_L1 t Q k x (next ())) (fun (s : Unit) => Q 0) ll k1 () ∧ FrOk 52 [(10, .int .i64 (k1 : Int)), (0, .slice tA t.length tC), (8, .slice tA t.length tC), (9, .int .i64 (t.length : Int))] a ∧ Sat w0 none_ [] w) t ⟨0, rfl, Nat.zero_add _, h, ((((hf.nil.cons (hf.get 9 _ rfl)).cons (hf.get 8 _ rfl)).cons (hf.get 0 _ rfl)).cons (hf.get 10 _ rfl)), hs⟩ ?_
    clear h hf hs
    rintro llk1 a w ⟨k1, hlk1, hkk1, h, hf, hs⟩
    cases llk1 with
    | nil =>
      have hc := range_done hkk1
      replace h : Q 0 := h
      refine wp_seq ?_
      refine R.list ?_
      refine S.val hf hs (v := .bool false) rfl rfl rfl (V.cmp false rfl rfl rfl rfl hc) (fun a hf => ?_)
      refine R.nil ?_
      refine X.then_ ?_
      refine wp_seq ?_
      refine C.no hf rfl ?_
      refine wp_exit ?_
      refine X.then_exit ?_
      refine X.then_exit ?_
      refine X.blk_exit ?_
      refine X.then_ ?_
      refine wp_seq ?_
      refine R.list ?_
      refine S.val hf hs (v := .int .i64 0) rfl rfl rfl (V.pure rfl) (fun a hf => ?_)
      refine R.nil ?_
      refine X.then_ ?_
      refine wp_ret ?_
      exact L.ret hf (run_results1 Try.results68 (ResIs.tmp hf rfl)) ⟨0, rfl, h, hs.nil⟩
    | cons xk1 llk1 =>
      have hltk1 := range_lt hkk1; have hc := range_go hkk1; have hxk1 := range_get hlk1
      obtain ⟨next1, hnext1⟩ : ∃ X : Prop, X = (forIn' (fun k x (s : Unit) next => M_drill_CheckTools_L1 t Q k x (next ())) (fun (s : Unit) => Q 0) llk1 (k1 + 1) ()) := ⟨_, rfl⟩
      replace h : M_drill_CheckTools_L1 t Q k1 xk1  next1 := by rw [hnext1]; exact h
      unfold M_drill_CheckTools_L1 at h
      refine wp_seq ?_
      refine R.list ?_
      refine S.val hf hs (v := .bool true) rfl rfl rfl (V.cmp true rfl rfl rfl rfl hc) (fun a hf => ?_)
      refine R.nil ?_
      refine X.then_ ?_
      refine wp_seq ?_
      refine C.yes hf rfl ?_
      refine wp_skip ?_
      refine X.then_ ?_
      refine wp_seq ?_
      refine wp_block ?_
      refine wp_seq ?_
      refine R.list ?_
      refine S.val hf hs (v := .int .i64 (k1 : Int)) rfl rfl rfl (V.pure rfl) (fun a hf => ?_)
      refine S.val hf hs (v := elemPtr tA (k1 * 4)) rfl rfl rfl (V.index rfl rfl rfl Try.runUnderlying48 Try.sizeOf56 (hv_t.some_ (lt_of_get hxk1)) (Int.natCast_nonneg _) (lt_of_get hxk1) rfl) (fun a hf => ?_)
      refine S.val hf hs (v := .agg #[.string (ba xk1.Name), .int .i64 xk1.Size, .int .i64 xk1.Life, .int .i64 xk1.Stack]) rfl rfl rfl (V.loadEl (off := 0) (Ag.args _ _ _) (hv_t.flat hxk1) rfl rfl rfl Try.isAgg56 Try.sizeOf56 rfl rfl) (fun a hf => ?_)
      refine S.alloc hf hs rfl rfl rfl [.string (ba []), .int .i64 0, .int .i64 0, .int .i64 0] rfl Try.zeroValue56 rfl (fun g1 a w hf hs => ?_)
      refine S.val hf hs (v := .int .i64 (k1 : Int)) rfl rfl rfl (V.pure rfl) (fun a hf => ?_)
      refine S.storeBox 0 hf hs rfl rfl [.string (ba xk1.Name), .int .i64 xk1.Size, .int .i64 xk1.Life, .int .i64 xk1.Stack] [.string (ba xk1.Name), .int .i64 xk1.Size, .int .i64 xk1.Life, .int .i64 xk1.Stack] rfl rfl rfl rfl rfl Try.sizeOf56 rfl rfl rfl rfl (fun a w hf hs => ?_)
      refine R.nil ?_
      refine X.then_ ?_
      refine wp_block ?_
      refine wp_seq ?_
      refine R.list ?_
      refine S.val hf hs (v := .pointer (some ⟨g1, 0, none⟩)) rfl rfl rfl (V.fieldBox rfl rfl Try.runUnderlying56 rfl Try.sizeOf9 rfl rfl) (fun a hf => ?_)
      refine S.val hf hs (v := .string (ba xk1.Name)) rfl rfl rfl (V.loadBox 0 rfl rfl rfl Try.isAgg9 Try.sizeOf9 rfl rfl) (fun a hf => ?_)
      refine S.call hf rfl rfl rfl (call_fn (vs := [.string (ba xk1.Name)]) rfl rfl rfl Try.call88) (R_netlist_IsWord xk1.Name _  _ h) (fun v a w' hf hr => ?_)
      obtain ⟨y1, rfl, h2, hs2⟩ := hr
      replace h := h2; replace hs := hs.call hs2; clear h2 hs2
      refine S.val hf hs (v := .bool (!y1)) rfl rfl rfl (V.pure rfl) (fun a hf => ?_)
      refine S.val hf hs (v := .bool (!y1)) rfl rfl rfl (V.pure rfl) (fun a hf => ?_)
      refine R.nil ?_
      refine X.then_ ?_
      refine C.cond hf (b := !y1) rfl (fun hc => ?_) (fun hc => ?_)
      · replace h := h.1 hc
        refine wp_seq ?_
        refine R.list ?_
        refine S.val hf hs (v := .int .i64 5) rfl rfl rfl (V.pure rfl) (fun a hf => ?_)
        refine R.nil ?_
        refine X.then_ ?_
        refine wp_ret ?_
        refine X.blk_ret ?_
        refine X.blk_ret ?_
        refine X.then_ret ?_
        refine X.then_ret ?_
        refine X.blk_ret ?_
        refine X.then_ret ?_
        exact L.ret hf (run_results1 Try.results68 (ResIs.tmp hf rfl)) ⟨5, rfl, h, hs.nil⟩
      · replace h := h.2 hc
        refine wp_seq ?_
        refine C.cut (J := fun a w => ∃ (c1 : Bool), M_drill_CheckTools_k2 t Q k1 xk1 next1 c1 ∧ FrOk 52 [(0, .slice tA t.length tC), (3, .int .i64 (k1 : Int)), (4, .pointer (some ⟨g1, 0, none⟩)), (8, .slice tA t.length tC), (9, .int .i64 (t.length : Int)), (10, .int .i64 (k1 : Int)), (20, .bool c1)] a ∧ Sat w0 none_ [hbox g1 56 [.string (ba xk1.Name), .int .i64 xk1.Size, .int .i64 xk1.Life, .int .i64 xk1.Stack]] w) ?_ ?_
        · rintro a w ⟨c1, h, hf, hs⟩
          unfold M_drill_CheckTools_k2 at h
          refine C.cond hf (b := c1) rfl (fun hc => ?_) (fun hc => ?_)
          · replace h := h.1 hc
            refine wp_seq ?_
            refine R.list ?_
            refine S.val hf hs (v := .int .i64 1) rfl rfl rfl (V.pure rfl) (fun a hf => ?_)
            refine R.nil ?_
            refine X.then_ ?_
            refine wp_ret ?_
            refine X.blk_ret ?_
            refine X.blk_ret ?_
            refine X.then_ret ?_
            refine X.then_ret ?_
            refine X.blk_ret ?_
            refine X.then_ret ?_
            exact L.ret hf (run_results1 Try.results68 (ResIs.tmp hf rfl)) ⟨1, rfl, h, hs.nil⟩
          · replace h := h.2 hc
            refine wp_seq ?_
            refine C.cut (J := fun a w => ∃ (c2 : Bool), M_drill_CheckTools_k3 Q next1 c2 ∧ FrOk 52 [(0, .slice tA t.length tC), (8, .slice tA t.length tC), (9, .int .i64 (t.length : Int)), (10, .int .i64 (k1 : Int)), (37, .bool c2)] a ∧ Sat w0 none_ [hbox g1 56 [.string (ba xk1.Name), .int .i64 xk1.Size, .int .i64 xk1.Life, .int .i64 xk1.Stack]] w) ?_ ?_
            · rintro a w ⟨c2, h, hf, hs⟩
              unfold M_drill_CheckTools_k3 at h
              refine C.cond hf (b := c2) rfl (fun hc => ?_) (fun hc => ?_)
              · replace h := h.1 hc
                refine wp_seq ?_
                refine R.list ?_
                refine S.val hf hs (v := .int .i64 8) rfl rfl rfl (V.pure rfl) (fun a hf => ?_)
                refine R.nil ?_
                refine X.then_ ?_
                refine wp_ret ?_
                refine X.blk_ret ?_
                refine X.blk_ret ?_
                refine X.then_ret ?_
                refine X.then_ret ?_
                refine X.blk_ret ?_
                refine X.then_ret ?_
                exact L.ret hf (run_results1 Try.results68 (ResIs.tmp hf rfl)) ⟨8, rfl, h, hs.nil⟩
              · replace h := h.2 hc
                refine wp_skip ?_
                refine X.blk ?_
                refine X.blk ?_
                refine X.then_ ?_
                refine R.list ?_
                refine S.val hf hs (v := .int .i64 ((k1 + 1 : Nat) : Int)) rfl rfl rfl (V.incr rfl rfl rfl hltk1 hlenk1) (fun a hf => ?_)
                refine S.val hf hs (v := .int .i64 ((k1 + 1 : Nat) : Int)) rfl rfl rfl (V.pure rfl) (fun a hf => ?_)
                refine R.nil ?_
                refine X.then_ ?_
                exact ⟨xk1, llk1, rfl, k1 + 1, range_drop hlk1, range_len hkk1, (by rw [hnext1] at h; exact h), ((((hf.nil.cons (hf.get 9 _ rfl)).cons (hf.get 8 _ rfl)).cons (hf.get 0 _ rfl)).cons (hf.get 10 _ rfl)), hs.drop⟩
            · skip
              refine R.draw mo (by kernel_rfl) hs ?_
              refine D.val hf (v := .int .i64 (k1 : Int)) rfl rfl rfl (V.pure rfl) (fun a hf => ?_)
              refine D.val hf (v := .bool (decide ((k1 : Int) > 0))) rfl rfl rfl (V.pure rfl) (fun a hf => ?_)
              refine D.split hf (b := decide ((k1 : Int) > 0)) rfl rfl rfl (V.pure rfl) (fun hc a hf => ?_) (fun hc a hf => ?_)
              · replace h := h.1 hc
                refine D.val hf (v := .pointer (some ⟨g1, 0, none⟩)) rfl rfl rfl (V.fieldBox rfl rfl Try.runUnderlying56 rfl Try.sizeOf9 rfl rfl) (fun a hf => ?_)
                refine D.val hf (v := .string (ba xk1.Name)) rfl rfl rfl (V.loadBox 0 rfl rfl rfl Try.isAgg9 Try.sizeOf9 rfl rfl) (fun a hf => ?_)
                refine D.val hf (v := .slice tA t.length tC) rfl rfl rfl (V.pure rfl) (fun a hf => ?_)
                refine D.val hf (v := .int .i64 (k1 : Int)) rfl rfl rfl (V.pure rfl) (fun a hf => ?_)
                refine D.val hf (v := .int .i64 (w64 ((k1 : Int) - 1))) rfl rfl rfl (V.pure rfl) (fun a hf => ?_)
                obtain ⟨h0x1, x1, hx1, h⟩ := h
                refine D.val hf (v := elemPtr tA ((w64 ((k1 : Int) - 1)).toNat * 4)) rfl rfl rfl (V.index rfl rfl rfl Try.runUnderlying48 Try.sizeOf56 (hv_t.some_ (lt_of_get hx1)) h0x1 (lt_of_get hx1) rfl) (fun a hf => ?_)
                refine D.val hf (v := elemPtr tA ((w64 ((k1 : Int) - 1)).toNat * 4)) rfl rfl rfl (V.fieldEl rfl rfl (hv_t.some_ (lt_of_get hx1)) Try.runUnderlying56 rfl Try.sizeOf9 rfl rfl) (fun a hf => ?_)
                refine D.val hf (v := .string (ba x1.Name)) rfl rfl rfl (V.loadEl (off := 0) (Ag.args _ _ _) (hv_t.flat hx1) rfl rfl rfl Try.isAgg9 Try.sizeOf9 rfl rfl) (fun a hf => ?_)
                refine D.val hf (v := .bool (strLt xk1.Name x1.Name || xk1.Name == x1.Name)) rfl rfl rfl (V.strCmp (strLt xk1.Name x1.Name || xk1.Name == x1.Name) rfl rfl rfl rfl) (fun a hf => ?_)
                refine D.val hf (v := .bool (strLt xk1.Name x1.Name || xk1.Name == x1.Name)) rfl rfl rfl (V.pure rfl) (fun a hf => ?_)
                refine D.val hf (v := .bool (strLt xk1.Name x1.Name || xk1.Name == x1.Name)) rfl rfl rfl (V.pure rfl) (fun a hf => ?_)
                refine D.done (fun w hs => ?_)
                refine X.then_ ?_
                exact ⟨(strLt xk1.Name x1.Name || xk1.Name == x1.Name), h, (((((hf.nil.cons (hf.get 37 _ rfl)).cons (hf.get 10 _ rfl)).cons (hf.get 9 _ rfl)).cons (hf.get 8 _ rfl)).cons (hf.get 0 _ rfl)), hs⟩
              · replace h := h.2 hc
                refine D.skip hf rfl rfl rfl (fun a hf => ?_)
                refine D.skip hf rfl rfl rfl (fun a hf => ?_)
                refine D.skip hf rfl rfl rfl (fun a hf => ?_)
                refine D.skip hf rfl rfl rfl (fun a hf => ?_)
                refine D.skip hf rfl rfl rfl (fun a hf => ?_)
                refine D.skip hf rfl rfl rfl (fun a hf => ?_)
                refine D.skip hf rfl rfl rfl (fun a hf => ?_)
                refine D.skip hf rfl rfl rfl (fun a hf => ?_)
                refine D.skip hf rfl rfl rfl (fun a hf => ?_)
                refine D.val hf (v := .bool false) rfl rfl rfl (V.pure rfl) (fun a hf => ?_)
                refine D.val hf (v := .bool false) rfl rfl rfl (V.pure rfl) (fun a hf => ?_)
                refine D.done (fun w hs => ?_)
                refine X.then_ ?_
                exact ⟨false, h, (((((hf.nil.cons (hf.get 37 _ rfl)).cons (hf.get 10 _ rfl)).cons (hf.get 9 _ rfl)).cons (hf.get 8 _ rfl)).cons (hf.get 0 _ rfl)), hs⟩
        · skip
          refine R.list ?_
          refine S.val hf hs (v := .pointer (some ⟨g1, 1, none⟩)) rfl rfl rfl (V.fieldBox rfl rfl Try.runUnderlying56 rfl Try.sizeOf3 rfl rfl) (fun a hf => ?_)
          refine S.val hf hs (v := .int .i64 xk1.Size) rfl rfl rfl (V.loadBox 0 rfl rfl rfl Try.isAgg3 Try.sizeOf3 rfl rfl) (fun a hf => ?_)
          refine S.callv hf rfl rfl rfl (call_fn (vs := [.int .i64 xk1.Size, .int .i64 1, .int .i64 10000]) rfl rfl rfl Try.call55) (C_drill_within xk1.Size 1 10000 _ ) (fun a w hf hs' => ?_)
          replace hs := hs.call hs'; clear hs'
          refine S.val hf hs (v := .bool (!(within xk1.Size 1 10000))) rfl rfl rfl (V.pure rfl) (fun a hf => ?_)
          refine S.split hf hs (b := !(within xk1.Size 1 10000)) rfl rfl rfl (V.pure rfl) (fun hc a hf => ?_) (fun hc a hf => ?_)
          · replace h := h.1 hc
            refine S.skip hf rfl rfl rfl (fun a hf => ?_)
            refine S.skip hf rfl rfl rfl (fun a hf => ?_)
            refine S.skip hf rfl rfl rfl (fun a hf => ?_)
            refine S.skip hf rfl rfl rfl (fun a hf => ?_)
            refine S.val hf hs (v := .bool true) rfl rfl rfl (V.pure rfl) (fun a hf => ?_)
            refine S.val hf hs (v := .bool true) rfl rfl rfl (V.pure rfl) (fun a hf => ?_)
            refine S.skip hf rfl rfl rfl (fun a hf => ?_)
            refine S.skip hf rfl rfl rfl (fun a hf => ?_)
            refine S.skip hf rfl rfl rfl (fun a hf => ?_)
            refine S.skip hf rfl rfl rfl (fun a hf => ?_)
            refine S.val hf hs (v := .bool true) rfl rfl rfl (V.pure rfl) (fun a hf => ?_)
            refine S.val hf hs (v := .bool true) rfl rfl rfl (V.pure rfl) (fun a hf => ?_)
            refine R.nil ?_
            refine X.then_ ?_
            exact ⟨true, h, (((((((hf.nil.cons (hf.get 20 _ rfl)).cons (hf.get 10 _ rfl)).cons (hf.get 9 _ rfl)).cons (hf.get 8 _ rfl)).cons (hf.get 4 _ rfl)).cons (hf.get 3 _ rfl)).cons (hf.get 0 _ rfl)), hs⟩
          · replace h := h.2 hc
            refine S.val hf hs (v := .pointer (some ⟨g1, 2, none⟩)) rfl rfl rfl (V.fieldBox rfl rfl Try.runUnderlying56 rfl Try.sizeOf3 rfl rfl) (fun a hf => ?_)
            refine S.val hf hs (v := .int .i64 xk1.Life) rfl rfl rfl (V.loadBox 0 rfl rfl rfl Try.isAgg3 Try.sizeOf3 rfl rfl) (fun a hf => ?_)
            refine S.callv hf rfl rfl rfl (call_fn (vs := [.int .i64 xk1.Life, .int .i64 1, .int .i64 2000]) rfl rfl rfl Try.call55) (C_drill_within xk1.Life 1 2000 _ ) (fun a w hf hs' => ?_)
            replace hs := hs.call hs'; clear hs'
            refine S.val hf hs (v := .bool (!(within xk1.Life 1 2000))) rfl rfl rfl (V.pure rfl) (fun a hf => ?_)
            refine S.val hf hs (v := .bool (!(within xk1.Life 1 2000))) rfl rfl rfl (V.pure rfl) (fun a hf => ?_)
            refine S.split hf hs (b := !(within xk1.Life 1 2000)) rfl rfl rfl (V.pure rfl) (fun hc a hf => ?_) (fun hc a hf => ?_)
            · replace h := h.1 hc
              refine S.skip hf rfl rfl rfl (fun a hf => ?_)
              refine S.skip hf rfl rfl rfl (fun a hf => ?_)
              refine S.skip hf rfl rfl rfl (fun a hf => ?_)
              refine S.skip hf rfl rfl rfl (fun a hf => ?_)
              refine S.val hf hs (v := .bool true) rfl rfl rfl (V.pure rfl) (fun a hf => ?_)
              refine S.val hf hs (v := .bool true) rfl rfl rfl (V.pure rfl) (fun a hf => ?_)
              refine R.nil ?_
              refine X.then_ ?_
              exact ⟨true, h, (((((((hf.nil.cons (hf.get 20 _ rfl)).cons (hf.get 10 _ rfl)).cons (hf.get 9 _ rfl)).cons (hf.get 8 _ rfl)).cons (hf.get 4 _ rfl)).cons (hf.get 3 _ rfl)).cons (hf.get 0 _ rfl)), hs⟩
            · replace h := h.2 hc
              refine S.val hf hs (v := .pointer (some ⟨g1, 3, none⟩)) rfl rfl rfl (V.fieldBox rfl rfl Try.runUnderlying56 rfl Try.sizeOf3 rfl rfl) (fun a hf => ?_)
              refine S.val hf hs (v := .int .i64 xk1.Stack) rfl rfl rfl (V.loadBox 0 rfl rfl rfl Try.isAgg3 Try.sizeOf3 rfl rfl) (fun a hf => ?_)
              refine S.callv hf rfl rfl rfl (call_fn (vs := [.int .i64 xk1.Stack, .int .i64 0, .int .i64 1000]) rfl rfl rfl Try.call55) (C_drill_within xk1.Stack 0 1000 _ ) (fun a w hf hs' => ?_)
              replace hs := hs.call hs'; clear hs'
              refine S.val hf hs (v := .bool (!(within xk1.Stack 0 1000))) rfl rfl rfl (V.pure rfl) (fun a hf => ?_)
              refine S.val hf hs (v := .bool (!(within xk1.Stack 0 1000))) rfl rfl rfl (V.pure rfl) (fun a hf => ?_)
              refine S.val hf hs (v := .bool (!(within xk1.Stack 0 1000))) rfl rfl rfl (V.pure rfl) (fun a hf => ?_)
              refine R.nil ?_
              refine X.then_ ?_
              exact ⟨(!(within xk1.Stack 0 1000)), h, (((((((hf.nil.cons (hf.get 20 _ rfl)).cons (hf.get 10 _ rfl)).cons (hf.get 9 _ rfl)).cons (hf.get 8 _ rfl)).cons (hf.get 4 _ rfl)).cons (hf.get 3 _ rfl)).cons (hf.get 0 _ rfl)), hs⟩

set_option linter.unusedVariables false
def M_ref8_CheckTools_k3 (Q : Int → Prop) (next1 : Prop) (c2 : Bool) : Prop :=
  cnd c2 (Q 8) (next1)
def M_ref8_CheckTools_k2 (t : (List Bit)) (Q : Int → Prop) (k1 : Nat) (xk1 : Bit) (next1 : Prop) (c1 : Bool) : Prop :=
  cnd c1 (Q 1) (cnd (decide ((k1 : Int) > 0)) (idx t (w64 ((k1 : Int) - 1)) fun x1 => M_ref8_CheckTools_k3 Q next1 (strLt xk1.Name x1.Name || xk1.Name == x1.Name)) (M_ref8_CheckTools_k3 Q next1 false))
def M_ref8_CheckTools_L1 (t : (List Bit)) (Q : Int → Prop) (k1 : Nat) (xk1 : Bit)  (next1 : Prop) : Prop :=
  M_ref8_isWord xk1.Name fun y1 => cnd (!y1) (Q 5) (cnd (!(within xk1.Size 1 10000)) (M_ref8_CheckTools_k2 t Q k1 xk1 next1 true) (cnd (!(within xk1.Life 1 2000)) (M_ref8_CheckTools_k2 t Q k1 xk1 next1 true) (M_ref8_CheckTools_k2 t Q k1 xk1 next1 (!(within xk1.Stack 0 1000)))))
def M_ref8_CheckTools (t : (List Bit)) (Q : Int → Prop) : Prop :=
  cnd (decide ((t.length : Int) > 100)) (Q 2) (forIn' (fun k x (s : Unit) next => M_ref8_CheckTools_L1 t Q k x (next ())) (fun (s : Unit) => Q 0) t 0 ())
set_option maxHeartbeats 1000000 in
theorem R_ref8_CheckTools (t : (List Bit)) (w0 : World) (tA : Option Addr) (tC : Nat) (hv_t : View w0 (old w0 none_) tA tC t) (Q : Int → Prop) (h : M_ref8_CheckTools t Q) :
    Ret Try.prog 70 #[.slice tA t.length tC] w0 fun v w' => ∃ (r0 : Int), v = .int .i64 r0 ∧ Q r0 ∧ Sat w0 none_ [] w' := by
  refine fn_enter Try.func70 rfl Try.ntmps70 rfl (fs := [(0, .slice tA t.length tC)]) rfl (fun a hf => ?_)
  have hs := Sat.start w0 none_
  unfold M_ref8_CheckTools at h
  refine wp_seq ?_
  refine R.list ?_
  refine S.val hf hs (v := .int .i64 0) rfl rfl rfl (V.pure rfl) (fun a hf => ?_)
  refine R.nil ?_
  refine X.then_ ?_
  refine wp_seq ?_
  refine wp_seq ?_
  refine R.list ?_
  refine S.val hf hs (v := .slice tA t.length tC) rfl rfl rfl (V.pure rfl) (fun a hf => ?_)
  refine S.val hf hs (v := .int .i64 (t.length : Int)) rfl rfl rfl (V.len rfl rfl Try.runUnderlying48) (fun a hf => ?_)
  refine S.val hf hs (v := .bool (decide ((t.length : Int) > 100))) rfl rfl rfl (V.pure rfl) (fun a hf => ?_)
  refine R.nil ?_
  refine X.then_ ?_
  refine C.cond hf (b := decide ((t.length : Int) > 100)) rfl (fun hc => ?_) (fun hc => ?_)
  · replace h := h.1 hc
    refine wp_seq ?_
    refine R.list ?_
    refine S.val hf hs (v := .int .i64 2) rfl rfl rfl (V.pure rfl) (fun a hf => ?_)
    refine R.nil ?_
    refine X.then_ ?_
    refine wp_ret ?_
    refine X.then_ret ?_
    exact L.ret hf (run_results1 Try.results70 (ResIs.tmp hf rfl)) ⟨2, rfl, h, hs.nil⟩
  · replace h := h.2 hc
    refine wp_skip ?_
    refine X.then_ ?_
    refine wp_seq ?_
    refine wp_seq ?_
    refine R.list ?_
    refine S.val hf hs (v := .slice tA t.length tC) rfl rfl rfl (V.pure rfl) (fun a hf => ?_)
    refine S.val hf hs (v := .int .i64 (t.length : Int)) rfl rfl rfl (V.len rfl rfl Try.runUnderlying48) (fun a hf => ?_)
    refine S.val hf hs (v := .int .i64 0) rfl rfl rfl (V.pure rfl) (fun a hf => ?_)
    refine R.nil ?_
    refine X.then_ ?_
    refine wp_block ?_
    have hlenk1 := hv_t.len64
    refine C.range (fun (ll : List Bit) a w => ∃ (k1 : Nat) , t.drop k1 = ll ∧ k1 + ll.length = t.length ∧ forIn' (fun k x (s : Unit) next => M_ref8_CheckTools_L1 t Q k x (next ())) (fun (s : Unit) => Q 0) ll k1 () ∧ FrOk 52 [(10, .int .i64 (k1 : Int)), (0, .slice tA t.length tC), (8, .slice tA t.length tC), (9, .int .i64 (t.length : Int))] a ∧ Sat w0 none_ [] w) t ⟨0, rfl, Nat.zero_add _, h, ((((hf.nil.cons (hf.get 9 _ rfl)).cons (hf.get 8 _ rfl)).cons (hf.get 0 _ rfl)).cons (hf.get 10 _ rfl)), hs⟩ ?_
    clear h hf hs
    rintro llk1 a w ⟨k1, hlk1, hkk1, h, hf, hs⟩
    cases llk1 with
    | nil =>
      have hc := range_done hkk1
      replace h : Q 0 := h
      refine wp_seq ?_
      refine R.list ?_
      refine S.val hf hs (v := .bool false) rfl rfl rfl (V.cmp false rfl rfl rfl rfl hc) (fun a hf => ?_)
      refine R.nil ?_
      refine X.then_ ?_
      refine wp_seq ?_
      refine C.no hf rfl ?_
      refine wp_exit ?_
      refine X.then_exit ?_
      refine X.then_exit ?_
      refine X.blk_exit ?_
      refine X.then_ ?_
      refine wp_seq ?_
      refine R.list ?_
      refine S.val hf hs (v := .int .i64 0) rfl rfl rfl (V.pure rfl) (fun a hf => ?_)
      refine R.nil ?_
      refine X.then_ ?_
      refine wp_ret ?_
      exact L.ret hf (run_results1 Try.results70 (ResIs.tmp hf rfl)) ⟨0, rfl, h, hs.nil⟩
    | cons xk1 llk1 =>
      have hltk1 := range_lt hkk1; have hc := range_go hkk1; have hxk1 := range_get hlk1
      obtain ⟨next1, hnext1⟩ : ∃ X : Prop, X = (forIn' (fun k x (s : Unit) next => M_ref8_CheckTools_L1 t Q k x (next ())) (fun (s : Unit) => Q 0) llk1 (k1 + 1) ()) := ⟨_, rfl⟩
      replace h : M_ref8_CheckTools_L1 t Q k1 xk1  next1 := by rw [hnext1]; exact h
      unfold M_ref8_CheckTools_L1 at h
      refine wp_seq ?_
      refine R.list ?_
      refine S.val hf hs (v := .bool true) rfl rfl rfl (V.cmp true rfl rfl rfl rfl hc) (fun a hf => ?_)
      refine R.nil ?_
      refine X.then_ ?_
      refine wp_seq ?_
      refine C.yes hf rfl ?_
      refine wp_skip ?_
      refine X.then_ ?_
      refine wp_seq ?_
      refine wp_block ?_
      refine wp_seq ?_
      refine R.list ?_
      refine S.val hf hs (v := .int .i64 (k1 : Int)) rfl rfl rfl (V.pure rfl) (fun a hf => ?_)
      refine S.val hf hs (v := elemPtr tA (k1 * 4)) rfl rfl rfl (V.index rfl rfl rfl Try.runUnderlying48 Try.sizeOf56 (hv_t.some_ (lt_of_get hxk1)) (Int.natCast_nonneg _) (lt_of_get hxk1) rfl) (fun a hf => ?_)
      refine S.val hf hs (v := .agg #[.string (ba xk1.Name), .int .i64 xk1.Size, .int .i64 xk1.Life, .int .i64 xk1.Stack]) rfl rfl rfl (V.loadEl (off := 0) (Ag.args _ _ _) (hv_t.flat hxk1) rfl rfl rfl Try.isAgg56 Try.sizeOf56 rfl rfl) (fun a hf => ?_)
      refine S.alloc hf hs rfl rfl rfl [.string (ba []), .int .i64 0, .int .i64 0, .int .i64 0] rfl Try.zeroValue56 rfl (fun g1 a w hf hs => ?_)
      refine S.val hf hs (v := .int .i64 (k1 : Int)) rfl rfl rfl (V.pure rfl) (fun a hf => ?_)
      refine S.storeBox 0 hf hs rfl rfl [.string (ba xk1.Name), .int .i64 xk1.Size, .int .i64 xk1.Life, .int .i64 xk1.Stack] [.string (ba xk1.Name), .int .i64 xk1.Size, .int .i64 xk1.Life, .int .i64 xk1.Stack] rfl rfl rfl rfl rfl Try.sizeOf56 rfl rfl rfl rfl (fun a w hf hs => ?_)
      refine R.nil ?_
      refine X.then_ ?_
      refine wp_block ?_
      refine wp_seq ?_
      refine R.list ?_
      refine S.val hf hs (v := .pointer (some ⟨g1, 0, none⟩)) rfl rfl rfl (V.fieldBox rfl rfl Try.runUnderlying56 rfl Try.sizeOf9 rfl rfl) (fun a hf => ?_)
      refine S.val hf hs (v := .string (ba xk1.Name)) rfl rfl rfl (V.loadBox 0 rfl rfl rfl Try.isAgg9 Try.sizeOf9 rfl rfl) (fun a hf => ?_)
      refine S.call hf rfl rfl rfl (call_fn (vs := [.string (ba xk1.Name)]) rfl rfl rfl Try.call92) (R_ref8_isWord xk1.Name _  _ h) (fun v a w' hf hr => ?_)
      obtain ⟨y1, rfl, h2, hs2⟩ := hr
      replace h := h2; replace hs := hs.call hs2; clear h2 hs2
      refine S.val hf hs (v := .bool (!y1)) rfl rfl rfl (V.pure rfl) (fun a hf => ?_)
      refine S.val hf hs (v := .bool (!y1)) rfl rfl rfl (V.pure rfl) (fun a hf => ?_)
      refine R.nil ?_
      refine X.then_ ?_
      refine C.cond hf (b := !y1) rfl (fun hc => ?_) (fun hc => ?_)
      · replace h := h.1 hc
        refine wp_seq ?_
        refine R.list ?_
        refine S.val hf hs (v := .int .i64 5) rfl rfl rfl (V.pure rfl) (fun a hf => ?_)
        refine R.nil ?_
        refine X.then_ ?_
        refine wp_ret ?_
        refine X.blk_ret ?_
        refine X.blk_ret ?_
        refine X.then_ret ?_
        refine X.then_ret ?_
        refine X.blk_ret ?_
        refine X.then_ret ?_
        exact L.ret hf (run_results1 Try.results70 (ResIs.tmp hf rfl)) ⟨5, rfl, h, hs.nil⟩
      · replace h := h.2 hc
        refine wp_seq ?_
        refine C.cut (J := fun a w => ∃ (c1 : Bool), M_ref8_CheckTools_k2 t Q k1 xk1 next1 c1 ∧ FrOk 52 [(0, .slice tA t.length tC), (3, .int .i64 (k1 : Int)), (4, .pointer (some ⟨g1, 0, none⟩)), (8, .slice tA t.length tC), (9, .int .i64 (t.length : Int)), (10, .int .i64 (k1 : Int)), (20, .bool c1)] a ∧ Sat w0 none_ [hbox g1 56 [.string (ba xk1.Name), .int .i64 xk1.Size, .int .i64 xk1.Life, .int .i64 xk1.Stack]] w) ?_ ?_
        · rintro a w ⟨c1, h, hf, hs⟩
          unfold M_ref8_CheckTools_k2 at h
          refine C.cond hf (b := c1) rfl (fun hc => ?_) (fun hc => ?_)
          · replace h := h.1 hc
            refine wp_seq ?_
            refine R.list ?_
            refine S.val hf hs (v := .int .i64 1) rfl rfl rfl (V.pure rfl) (fun a hf => ?_)
            refine R.nil ?_
            refine X.then_ ?_
            refine wp_ret ?_
            refine X.blk_ret ?_
            refine X.blk_ret ?_
            refine X.then_ret ?_
            refine X.then_ret ?_
            refine X.blk_ret ?_
            refine X.then_ret ?_
            exact L.ret hf (run_results1 Try.results70 (ResIs.tmp hf rfl)) ⟨1, rfl, h, hs.nil⟩
          · replace h := h.2 hc
            refine wp_seq ?_
            refine C.cut (J := fun a w => ∃ (c2 : Bool), M_ref8_CheckTools_k3 Q next1 c2 ∧ FrOk 52 [(0, .slice tA t.length tC), (8, .slice tA t.length tC), (9, .int .i64 (t.length : Int)), (10, .int .i64 (k1 : Int)), (37, .bool c2)] a ∧ Sat w0 none_ [hbox g1 56 [.string (ba xk1.Name), .int .i64 xk1.Size, .int .i64 xk1.Life, .int .i64 xk1.Stack]] w) ?_ ?_
            · rintro a w ⟨c2, h, hf, hs⟩
              unfold M_ref8_CheckTools_k3 at h
              refine C.cond hf (b := c2) rfl (fun hc => ?_) (fun hc => ?_)
              · replace h := h.1 hc
                refine wp_seq ?_
                refine R.list ?_
                refine S.val hf hs (v := .int .i64 8) rfl rfl rfl (V.pure rfl) (fun a hf => ?_)
                refine R.nil ?_
                refine X.then_ ?_
                refine wp_ret ?_
                refine X.blk_ret ?_
                refine X.blk_ret ?_
                refine X.then_ret ?_
                refine X.then_ret ?_
                refine X.blk_ret ?_
                refine X.then_ret ?_
                exact L.ret hf (run_results1 Try.results70 (ResIs.tmp hf rfl)) ⟨8, rfl, h, hs.nil⟩
              · replace h := h.2 hc
                refine wp_skip ?_
                refine X.blk ?_
                refine X.blk ?_
                refine X.then_ ?_
                refine R.list ?_
                refine S.val hf hs (v := .int .i64 ((k1 + 1 : Nat) : Int)) rfl rfl rfl (V.incr rfl rfl rfl hltk1 hlenk1) (fun a hf => ?_)
                refine S.val hf hs (v := .int .i64 ((k1 + 1 : Nat) : Int)) rfl rfl rfl (V.pure rfl) (fun a hf => ?_)
                refine R.nil ?_
                refine X.then_ ?_
                exact ⟨xk1, llk1, rfl, k1 + 1, range_drop hlk1, range_len hkk1, (by rw [hnext1] at h; exact h), ((((hf.nil.cons (hf.get 9 _ rfl)).cons (hf.get 8 _ rfl)).cons (hf.get 0 _ rfl)).cons (hf.get 10 _ rfl)), hs.drop⟩
            · skip
              refine R.draw mo (by kernel_rfl) hs ?_
              refine D.val hf (v := .int .i64 (k1 : Int)) rfl rfl rfl (V.pure rfl) (fun a hf => ?_)
              refine D.val hf (v := .bool (decide ((k1 : Int) > 0))) rfl rfl rfl (V.pure rfl) (fun a hf => ?_)
              refine D.split hf (b := decide ((k1 : Int) > 0)) rfl rfl rfl (V.pure rfl) (fun hc a hf => ?_) (fun hc a hf => ?_)
              · replace h := h.1 hc
                refine D.val hf (v := .pointer (some ⟨g1, 0, none⟩)) rfl rfl rfl (V.fieldBox rfl rfl Try.runUnderlying56 rfl Try.sizeOf9 rfl rfl) (fun a hf => ?_)
                refine D.val hf (v := .string (ba xk1.Name)) rfl rfl rfl (V.loadBox 0 rfl rfl rfl Try.isAgg9 Try.sizeOf9 rfl rfl) (fun a hf => ?_)
                refine D.val hf (v := .slice tA t.length tC) rfl rfl rfl (V.pure rfl) (fun a hf => ?_)
                refine D.val hf (v := .int .i64 (k1 : Int)) rfl rfl rfl (V.pure rfl) (fun a hf => ?_)
                refine D.val hf (v := .int .i64 (w64 ((k1 : Int) - 1))) rfl rfl rfl (V.pure rfl) (fun a hf => ?_)
                obtain ⟨h0x1, x1, hx1, h⟩ := h
                refine D.val hf (v := elemPtr tA ((w64 ((k1 : Int) - 1)).toNat * 4)) rfl rfl rfl (V.index rfl rfl rfl Try.runUnderlying48 Try.sizeOf56 (hv_t.some_ (lt_of_get hx1)) h0x1 (lt_of_get hx1) rfl) (fun a hf => ?_)
                refine D.val hf (v := elemPtr tA ((w64 ((k1 : Int) - 1)).toNat * 4)) rfl rfl rfl (V.fieldEl rfl rfl (hv_t.some_ (lt_of_get hx1)) Try.runUnderlying56 rfl Try.sizeOf9 rfl rfl) (fun a hf => ?_)
                refine D.val hf (v := .string (ba x1.Name)) rfl rfl rfl (V.loadEl (off := 0) (Ag.args _ _ _) (hv_t.flat hx1) rfl rfl rfl Try.isAgg9 Try.sizeOf9 rfl rfl) (fun a hf => ?_)
                refine D.val hf (v := .bool (strLt xk1.Name x1.Name || xk1.Name == x1.Name)) rfl rfl rfl (V.strCmp (strLt xk1.Name x1.Name || xk1.Name == x1.Name) rfl rfl rfl rfl) (fun a hf => ?_)
                refine D.val hf (v := .bool (strLt xk1.Name x1.Name || xk1.Name == x1.Name)) rfl rfl rfl (V.pure rfl) (fun a hf => ?_)
                refine D.val hf (v := .bool (strLt xk1.Name x1.Name || xk1.Name == x1.Name)) rfl rfl rfl (V.pure rfl) (fun a hf => ?_)
                refine D.done (fun w hs => ?_)
                refine X.then_ ?_
                exact ⟨(strLt xk1.Name x1.Name || xk1.Name == x1.Name), h, (((((hf.nil.cons (hf.get 37 _ rfl)).cons (hf.get 10 _ rfl)).cons (hf.get 9 _ rfl)).cons (hf.get 8 _ rfl)).cons (hf.get 0 _ rfl)), hs⟩
              · replace h := h.2 hc
                refine D.skip hf rfl rfl rfl (fun a hf => ?_)
                refine D.skip hf rfl rfl rfl (fun a hf => ?_)
                refine D.skip hf rfl rfl rfl (fun a hf => ?_)
                refine D.skip hf rfl rfl rfl (fun a hf => ?_)
                refine D.skip hf rfl rfl rfl (fun a hf => ?_)
                refine D.skip hf rfl rfl rfl (fun a hf => ?_)
                refine D.skip hf rfl rfl rfl (fun a hf => ?_)
                refine D.skip hf rfl rfl rfl (fun a hf => ?_)
                refine D.skip hf rfl rfl rfl (fun a hf => ?_)
                refine D.val hf (v := .bool false) rfl rfl rfl (V.pure rfl) (fun a hf => ?_)
                refine D.val hf (v := .bool false) rfl rfl rfl (V.pure rfl) (fun a hf => ?_)
                refine D.done (fun w hs => ?_)
                refine X.then_ ?_
                exact ⟨false, h, (((((hf.nil.cons (hf.get 37 _ rfl)).cons (hf.get 10 _ rfl)).cons (hf.get 9 _ rfl)).cons (hf.get 8 _ rfl)).cons (hf.get 0 _ rfl)), hs⟩
        · skip
          refine R.list ?_
          refine S.val hf hs (v := .pointer (some ⟨g1, 1, none⟩)) rfl rfl rfl (V.fieldBox rfl rfl Try.runUnderlying56 rfl Try.sizeOf3 rfl rfl) (fun a hf => ?_)
          refine S.val hf hs (v := .int .i64 xk1.Size) rfl rfl rfl (V.loadBox 0 rfl rfl rfl Try.isAgg3 Try.sizeOf3 rfl rfl) (fun a hf => ?_)
          refine S.callv hf rfl rfl rfl (call_fn (vs := [.int .i64 xk1.Size, .int .i64 1, .int .i64 10000]) rfl rfl rfl Try.call59) (C_ref8_within xk1.Size 1 10000 _ ) (fun a w hf hs' => ?_)
          replace hs := hs.call hs'; clear hs'
          refine S.val hf hs (v := .bool (!(within xk1.Size 1 10000))) rfl rfl rfl (V.pure rfl) (fun a hf => ?_)
          refine S.split hf hs (b := !(within xk1.Size 1 10000)) rfl rfl rfl (V.pure rfl) (fun hc a hf => ?_) (fun hc a hf => ?_)
          · replace h := h.1 hc
            refine S.skip hf rfl rfl rfl (fun a hf => ?_)
            refine S.skip hf rfl rfl rfl (fun a hf => ?_)
            refine S.skip hf rfl rfl rfl (fun a hf => ?_)
            refine S.skip hf rfl rfl rfl (fun a hf => ?_)
            refine S.val hf hs (v := .bool true) rfl rfl rfl (V.pure rfl) (fun a hf => ?_)
            refine S.val hf hs (v := .bool true) rfl rfl rfl (V.pure rfl) (fun a hf => ?_)
            refine S.skip hf rfl rfl rfl (fun a hf => ?_)
            refine S.skip hf rfl rfl rfl (fun a hf => ?_)
            refine S.skip hf rfl rfl rfl (fun a hf => ?_)
            refine S.skip hf rfl rfl rfl (fun a hf => ?_)
            refine S.val hf hs (v := .bool true) rfl rfl rfl (V.pure rfl) (fun a hf => ?_)
            refine S.val hf hs (v := .bool true) rfl rfl rfl (V.pure rfl) (fun a hf => ?_)
            refine R.nil ?_
            refine X.then_ ?_
            exact ⟨true, h, (((((((hf.nil.cons (hf.get 20 _ rfl)).cons (hf.get 10 _ rfl)).cons (hf.get 9 _ rfl)).cons (hf.get 8 _ rfl)).cons (hf.get 4 _ rfl)).cons (hf.get 3 _ rfl)).cons (hf.get 0 _ rfl)), hs⟩
          · replace h := h.2 hc
            refine S.val hf hs (v := .pointer (some ⟨g1, 2, none⟩)) rfl rfl rfl (V.fieldBox rfl rfl Try.runUnderlying56 rfl Try.sizeOf3 rfl rfl) (fun a hf => ?_)
            refine S.val hf hs (v := .int .i64 xk1.Life) rfl rfl rfl (V.loadBox 0 rfl rfl rfl Try.isAgg3 Try.sizeOf3 rfl rfl) (fun a hf => ?_)
            refine S.callv hf rfl rfl rfl (call_fn (vs := [.int .i64 xk1.Life, .int .i64 1, .int .i64 2000]) rfl rfl rfl Try.call59) (C_ref8_within xk1.Life 1 2000 _ ) (fun a w hf hs' => ?_)
            replace hs := hs.call hs'; clear hs'
            refine S.val hf hs (v := .bool (!(within xk1.Life 1 2000))) rfl rfl rfl (V.pure rfl) (fun a hf => ?_)
            refine S.val hf hs (v := .bool (!(within xk1.Life 1 2000))) rfl rfl rfl (V.pure rfl) (fun a hf => ?_)
            refine S.split hf hs (b := !(within xk1.Life 1 2000)) rfl rfl rfl (V.pure rfl) (fun hc a hf => ?_) (fun hc a hf => ?_)
            · replace h := h.1 hc
              refine S.skip hf rfl rfl rfl (fun a hf => ?_)
              refine S.skip hf rfl rfl rfl (fun a hf => ?_)
              refine S.skip hf rfl rfl rfl (fun a hf => ?_)
              refine S.skip hf rfl rfl rfl (fun a hf => ?_)
              refine S.val hf hs (v := .bool true) rfl rfl rfl (V.pure rfl) (fun a hf => ?_)
              refine S.val hf hs (v := .bool true) rfl rfl rfl (V.pure rfl) (fun a hf => ?_)
              refine R.nil ?_
              refine X.then_ ?_
              exact ⟨true, h, (((((((hf.nil.cons (hf.get 20 _ rfl)).cons (hf.get 10 _ rfl)).cons (hf.get 9 _ rfl)).cons (hf.get 8 _ rfl)).cons (hf.get 4 _ rfl)).cons (hf.get 3 _ rfl)).cons (hf.get 0 _ rfl)), hs⟩
            · replace h := h.2 hc
              refine S.val hf hs (v := .pointer (some ⟨g1, 3, none⟩)) rfl rfl rfl (V.fieldBox rfl rfl Try.runUnderlying56 rfl Try.sizeOf3 rfl rfl) (fun a hf => ?_)
              refine S.val hf hs (v := .int .i64 xk1.Stack) rfl rfl rfl (V.loadBox 0 rfl rfl rfl Try.isAgg3 Try.sizeOf3 rfl rfl) (fun a hf => ?_)
              refine S.callv hf rfl rfl rfl (call_fn (vs := [.int .i64 xk1.Stack, .int .i64 0, .int .i64 1000]) rfl rfl rfl Try.call59) (C_ref8_within xk1.Stack 0 1000 _ ) (fun a w hf hs' => ?_)
              replace hs := hs.call hs'; clear hs'
              refine S.val hf hs (v := .bool (!(within xk1.Stack 0 1000))) rfl rfl rfl (V.pure rfl) (fun a hf => ?_)
              refine S.val hf hs (v := .bool (!(within xk1.Stack 0 1000))) rfl rfl rfl (V.pure rfl) (fun a hf => ?_)
              refine S.val hf hs (v := .bool (!(within xk1.Stack 0 1000))) rfl rfl rfl (V.pure rfl) (fun a hf => ?_)
              refine R.nil ?_
              refine X.then_ ?_
              exact ⟨(!(within xk1.Stack 0 1000)), h, (((((((hf.nil.cons (hf.get 20 _ rfl)).cons (hf.get 10 _ rfl)).cons (hf.get 9 _ rfl)).cons (hf.get 8 _ rfl)).cons (hf.get 4 _ rfl)).cons (hf.get 3 _ rfl)).cons (hf.get 0 _ rfl)), hs⟩

set_option linter.unusedVariables false
def M_toolAt1 (b : Bit) (s_ : Str) (Q : Int → Prop) : Prop :=
  Q (cmpStr b.Name s_)
set_option maxHeartbeats 1000000 in
theorem R_toolAt1 (b : Bit) (s_ : Str) (w0 : World)  (Q : Int → Prop) (h : M_toolAt1 b s_ Q) :
    Ret Try.prog 95 #[.agg #[.string (ba b.Name), .int .i64 b.Size, .int .i64 b.Life, .int .i64 b.Stack], .string (ba s_)] w0 fun v w' => ∃ (r0 : Int), v = .int .i64 r0 ∧ Q r0 ∧ Sat w0 none_ [] w' := by
  refine fn_enter Try.func95 rfl Try.ntmps95 rfl (fs := [(0, .agg #[.string (ba b.Name), .int .i64 b.Size, .int .i64 b.Life, .int .i64 b.Stack]), (1, .string (ba s_))]) rfl (fun a hf => ?_)
  have hs := Sat.start w0 none_
  unfold M_toolAt1 at h
  refine wp_seq ?_
  refine R.list ?_
  refine S.box hf hs rfl rfl rfl [.string (ba b.Name), .int .i64 b.Size, .int .i64 b.Life, .int .i64 b.Stack] rfl rfl rfl (fun g1 a w hf hs => ?_)
  refine S.val hf hs (v := .int .i64 0) rfl rfl rfl (V.pure rfl) (fun a hf => ?_)
  refine R.nil ?_
  refine X.then_ ?_
  refine wp_seq ?_
  refine R.list ?_
  refine S.val hf hs (v := .pointer (some ⟨g1, 0, none⟩)) rfl rfl rfl (V.fieldBox rfl rfl Try.runUnderlying56 rfl Try.sizeOf9 rfl rfl) (fun a hf => ?_)
  refine S.val hf hs (v := .string (ba b.Name)) rfl rfl rfl (V.loadBox 0 rfl rfl rfl Try.isAgg9 Try.sizeOf9 rfl rfl) (fun a hf => ?_)
  refine S.val hf hs (v := .string (ba s_)) rfl rfl rfl (V.pure rfl) (fun a hf => ?_)
  refine S.callv hf rfl rfl rfl (call_fn (vs := [.string (ba b.Name), .string (ba s_)]) rfl rfl rfl Try.call96) (C_strings_Compare b.Name s_ _ ) (fun a w hf hs' => ?_)
  replace hs := hs.call hs'; clear hs'
  refine S.val hf hs (v := .int .i64 (cmpStr b.Name s_)) rfl rfl rfl (V.pure rfl) (fun a hf => ?_)
  refine R.nil ?_
  refine X.then_ ?_
  refine wp_ret ?_
  exact L.ret hf (run_results1 Try.results95 (ResIs.tmp hf rfl)) ⟨(cmpStr b.Name s_), rfl, h, hs.nil⟩

set_option linter.unusedVariables false
def M_search_bit_L1 (t : (List Bit)) (name : Str) (Q : Int → Bool → Prop) (again1 : Int → Int → Prop) (n3 : Int) (n4 : Int) : Prop :=
  cnd (decide (n3 < n4)) (idx t (cvt .i64 (shrI .u64 (cvt .u64 (w64 (n3 + n4))) 1)) fun x1 => M_toolAt1 x1 name fun y1 => cnd (decide (y1 < 0)) (again1 (w64 ((cvt .i64 (shrI .u64 (cvt .u64 (w64 (n3 + n4))) 1)) + 1)) n4) (again1 n3 (cvt .i64 (shrI .u64 (cvt .u64 (w64 (n3 + n4))) 1)))) (cnd (decide (n3 < (t.length : Int))) (idx t n3 fun x2 => M_toolAt1 x2 name fun y2 => Q n3 (y2 == 0)) (Q n3 false))
def M_search_bit (t : (List Bit)) (name : Str) (Q : Int → Bool → Prop) : Prop :=
  lp (fun again (s : Int × Int) => M_search_bit_L1 t name Q (fun n3 n4 => again (n3, n4)) s.1 s.2) (0, (t.length : Int))
set_option maxHeartbeats 1000000 in
theorem R_search_bit (t : (List Bit)) (name : Str) (w0 : World) (tA : Option Addr) (tC : Nat) (hv_t : View w0 (old w0 none_) tA tC t) (Q : Int → Bool → Prop) (h : M_search_bit t name Q) :
    Ret Try.prog 94 #[.slice tA t.length tC, .string (ba name), .func (.func 95) #[] #[]] w0 fun v w' => ∃ (r0 : Int) (r1 : Bool), v = .tuple #[.int .i64 r0, .bool r1] ∧ Q r0 r1 ∧ Sat w0 none_ [] w' := by
  refine fn_enter Try.func94 rfl Try.ntmps94 rfl (fs := [(0, .slice tA t.length tC), (1, .string (ba name)), (2, .func (.func 95) #[] #[])]) rfl (fun a hf => ?_)
  have hs := Sat.start w0 none_
  unfold M_search_bit at h
  refine wp_seq ?_
  refine R.list ?_
  refine S.val hf hs (v := .int .i64 0) rfl rfl rfl (V.pure rfl) (fun a hf => ?_)
  refine S.val hf hs (v := .bool false) rfl rfl rfl (V.pure rfl) (fun a hf => ?_)
  refine R.nil ?_
  refine X.then_ ?_
  refine wp_seq ?_
  refine R.list ?_
  refine S.val hf hs (v := .slice tA t.length tC) rfl rfl rfl (V.pure rfl) (fun a hf => ?_)
  refine S.val hf hs (v := .int .i64 (t.length : Int)) rfl rfl rfl (V.len rfl rfl Try.runUnderlying48) (fun a hf => ?_)
  refine S.val hf hs (v := .int .i64 (t.length : Int)) rfl rfl rfl (V.pure rfl) (fun a hf => ?_)
  refine R.nil ?_
  refine X.then_ ?_
  refine wp_seq ?_
  refine R.list ?_
  refine S.val hf hs (v := .int .i64 (t.length : Int)) rfl rfl rfl (V.pure rfl) (fun a hf => ?_)
  refine S.val hf hs (v := .int .i64 0) rfl rfl rfl (V.pure rfl) (fun a hf => ?_)
  refine S.val hf hs (v := .int .i64 (t.length : Int)) rfl rfl rfl (V.pure rfl) (fun a hf => ?_)
  refine R.nil ?_
  refine X.then_ ?_
  refine wp_seq ?_
  refine wp_block ?_
  obtain ⟨kk, h⟩ := h
  refine C.loop (fun kk a w => ∃ (n3 : Int) (n4 : Int), iterF (fun again (s : Int × Int) => M_search_bit_L1 t name Q (fun n3 n4 => again (n3, n4)) s.1 s.2) kk (n3, n4) ∧ FrOk 49 [(0, .slice tA t.length tC), (1, .string (ba name)), (2, .func (.func 95) #[] #[]), (8, .int .i64 (t.length : Int)), (9, .int .i64 n3), (10, .int .i64 n4)] a ∧ Sat w0 none_ [] w) kk ⟨0, (t.length : Int), h, ((((((hf.nil.cons (hf.get 10 _ rfl)).cons (hf.get 9 _ rfl)).cons (hf.get 8 _ rfl)).cons (hf.get 2 _ rfl)).cons (hf.get 1 _ rfl)).cons (hf.get 0 _ rfl)), hs⟩ (fun a w ⟨_, _, h, _, _⟩ => h) ?_
  clear h hf hs
  rintro kk a w ⟨n3, n4, h, hf, hs⟩
  obtain ⟨again1, hagain1⟩ : ∃ X : Int → Int → Prop, X = (fun n3 n4 => iterF (fun again (s : Int × Int) => M_search_bit_L1 t name Q (fun n3 n4 => again (n3, n4)) s.1 s.2) kk (n3, n4)) := ⟨_, rfl⟩
  replace h : M_search_bit_L1 t name Q again1 n3 n4 := by rw [hagain1]; exact h
  unfold M_search_bit_L1 at h
  refine wp_seq ?_
  refine wp_seq ?_
  refine R.list ?_
  refine S.val hf hs (v := .int .i64 n3) rfl rfl rfl (V.pure rfl) (fun a hf => ?_)
  refine S.val hf hs (v := .int .i64 n4) rfl rfl rfl (V.pure rfl) (fun a hf => ?_)
  refine S.val hf hs (v := .bool (decide (n3 < n4))) rfl rfl rfl (V.pure rfl) (fun a hf => ?_)
  refine R.nil ?_
  refine X.then_ ?_
  refine C.cond hf (b := decide (n3 < n4)) rfl (fun hc => ?_) (fun hc => ?_)
  · replace h := h.1 hc
    refine wp_skip ?_
    refine X.then_ ?_
    refine wp_block ?_
    refine wp_seq ?_
    refine R.list ?_
    refine S.val hf hs (v := .int .i64 n3) rfl rfl rfl (V.pure rfl) (fun a hf => ?_)
    refine S.val hf hs (v := .int .i64 n4) rfl rfl rfl (V.pure rfl) (fun a hf => ?_)
    refine S.val hf hs (v := .int .i64 (w64 (n3 + n4))) rfl rfl rfl (V.pure rfl) (fun a hf => ?_)
    refine S.val hf hs (v := .int .u64 (cvt .u64 (w64 (n3 + n4)))) rfl rfl rfl (V.conv rfl rfl Try.runUnderlying3 Try.runUnderlying129) (fun a hf => ?_)
    refine S.val hf hs (v := .int .u64 (shrI .u64 (cvt .u64 (w64 (n3 + n4))) 1)) rfl rfl rfl (V.shr rfl rfl rfl (by decide)) (fun a hf => ?_)
    refine S.val hf hs (v := .int .i64 (cvt .i64 (shrI .u64 (cvt .u64 (w64 (n3 + n4))) 1))) rfl rfl rfl (V.conv rfl rfl Try.runUnderlying129 Try.runUnderlying3) (fun a hf => ?_)
    refine S.val hf hs (v := .int .i64 (cvt .i64 (shrI .u64 (cvt .u64 (w64 (n3 + n4))) 1))) rfl rfl rfl (V.pure rfl) (fun a hf => ?_)
    refine R.nil ?_
    refine X.then_ ?_
    refine wp_seq ?_
    refine R.list ?_
    refine S.val hf hs (v := .func (.func 95) #[] #[]) rfl rfl rfl (V.pure rfl) (fun a hf => ?_)
    refine S.val hf hs (v := .slice tA t.length tC) rfl rfl rfl (V.pure rfl) (fun a hf => ?_)
    refine S.val hf hs (v := .int .i64 (cvt .i64 (shrI .u64 (cvt .u64 (w64 (n3 + n4))) 1))) rfl rfl rfl (V.pure rfl) (fun a hf => ?_)
    obtain ⟨h0x1, x1, hx1, h⟩ := h
    refine S.val hf hs (v := elemPtr tA ((cvt .i64 (shrI .u64 (cvt .u64 (w64 (n3 + n4))) 1)).toNat * 4)) rfl rfl rfl (V.index rfl rfl rfl Try.runUnderlying48 Try.sizeOf56 (hv_t.some_ (lt_of_get hx1)) h0x1 (lt_of_get hx1) rfl) (fun a hf => ?_)
    refine S.val hf hs (v := .agg #[.string (ba x1.Name), .int .i64 x1.Size, .int .i64 x1.Life, .int .i64 x1.Stack]) rfl rfl rfl (V.loadEl (off := 0) (Ag.args _ _ _) (hv_t.flat hx1) rfl rfl rfl Try.isAgg56 Try.sizeOf56 rfl rfl) (fun a hf => ?_)
    refine S.val hf hs (v := .string (ba name)) rfl rfl rfl (V.pure rfl) (fun a hf => ?_)
    refine S.call hf rfl rfl rfl (call_fn (vs := [.agg #[.string (ba x1.Name), .int .i64 x1.Size, .int .i64 x1.Life, .int .i64 x1.Stack], .string (ba name)]) rfl rfl rfl Try.call95) (R_toolAt1 x1 name _  _ h) (fun v a w' hf hr => ?_)
    obtain ⟨y1, rfl, h2, hs2⟩ := hr
    replace h := h2; replace hs := hs.call hs2; clear h2 hs2
    refine S.val hf hs (v := .bool (decide (y1 < 0))) rfl rfl rfl (V.pure rfl) (fun a hf => ?_)
    refine R.nil ?_
    refine X.then_ ?_
    refine C.cond hf (b := decide (y1 < 0)) rfl (fun hc => ?_) (fun hc => ?_)
    · replace h := h.1 hc
      refine R.list ?_
      refine S.val hf hs (v := .int .i64 (cvt .i64 (shrI .u64 (cvt .u64 (w64 (n3 + n4))) 1))) rfl rfl rfl (V.pure rfl) (fun a hf => ?_)
      refine S.val hf hs (v := .int .i64 (w64 ((cvt .i64 (shrI .u64 (cvt .u64 (w64 (n3 + n4))) 1)) + 1))) rfl rfl rfl (V.pure rfl) (fun a hf => ?_)
      refine S.val hf hs (v := .int .i64 (w64 ((cvt .i64 (shrI .u64 (cvt .u64 (w64 (n3 + n4))) 1)) + 1))) rfl rfl rfl (V.pure rfl) (fun a hf => ?_)
      refine R.nil ?_
      refine X.blk ?_
      refine X.then_ ?_
      exact ⟨(w64 ((cvt .i64 (shrI .u64 (cvt .u64 (w64 (n3 + n4))) 1)) + 1)), n4, (by rw [hagain1] at h; exact h), ((((((hf.nil.cons (hf.get 10 _ rfl)).cons (hf.get 9 _ rfl)).cons (hf.get 8 _ rfl)).cons (hf.get 2 _ rfl)).cons (hf.get 1 _ rfl)).cons (hf.get 0 _ rfl)), hs⟩
    · replace h := h.2 hc
      refine R.list ?_
      refine S.val hf hs (v := .int .i64 (cvt .i64 (shrI .u64 (cvt .u64 (w64 (n3 + n4))) 1))) rfl rfl rfl (V.pure rfl) (fun a hf => ?_)
      refine S.val hf hs (v := .int .i64 (cvt .i64 (shrI .u64 (cvt .u64 (w64 (n3 + n4))) 1))) rfl rfl rfl (V.pure rfl) (fun a hf => ?_)
      refine R.nil ?_
      refine X.blk ?_
      refine X.then_ ?_
      exact ⟨n3, (cvt .i64 (shrI .u64 (cvt .u64 (w64 (n3 + n4))) 1)), (by rw [hagain1] at h; exact h), ((((((hf.nil.cons (hf.get 10 _ rfl)).cons (hf.get 9 _ rfl)).cons (hf.get 8 _ rfl)).cons (hf.get 2 _ rfl)).cons (hf.get 1 _ rfl)).cons (hf.get 0 _ rfl)), hs⟩
  · replace h := h.2 hc
    refine wp_exit ?_
    refine X.then_exit ?_
    refine X.then_exit ?_
    refine X.blk_exit ?_
    refine X.then_ ?_
    refine wp_seq ?_
    refine R.list ?_
    refine S.val hf hs (v := .int .i64 n3) rfl rfl rfl (V.pure rfl) (fun a hf => ?_)
    refine S.val hf hs (v := .int .i64 n3) rfl rfl rfl (V.pure rfl) (fun a hf => ?_)
    refine S.val hf hs (v := .int .i64 (t.length : Int)) rfl rfl rfl (V.pure rfl) (fun a hf => ?_)
    refine S.val hf hs (v := .bool (decide (n3 < (t.length : Int)))) rfl rfl rfl (V.pure rfl) (fun a hf => ?_)
    refine S.split hf hs (b := decide (n3 < (t.length : Int))) rfl rfl rfl (V.pure rfl) (fun hc a hf => ?_) (fun hc a hf => ?_)
    · replace h := h.1 hc
      refine S.val hf hs (v := .func (.func 95) #[] #[]) rfl rfl rfl (V.pure rfl) (fun a hf => ?_)
      refine S.val hf hs (v := .slice tA t.length tC) rfl rfl rfl (V.pure rfl) (fun a hf => ?_)
      refine S.val hf hs (v := .int .i64 n3) rfl rfl rfl (V.pure rfl) (fun a hf => ?_)
      obtain ⟨h0x2, x2, hx2, h⟩ := h
      refine S.val hf hs (v := elemPtr tA (n3.toNat * 4)) rfl rfl rfl (V.index rfl rfl rfl Try.runUnderlying48 Try.sizeOf56 (hv_t.some_ (lt_of_get hx2)) h0x2 (lt_of_get hx2) rfl) (fun a hf => ?_)
      refine S.val hf hs (v := .agg #[.string (ba x2.Name), .int .i64 x2.Size, .int .i64 x2.Life, .int .i64 x2.Stack]) rfl rfl rfl (V.loadEl (off := 0) (Ag.args _ _ _) (hv_t.flat hx2) rfl rfl rfl Try.isAgg56 Try.sizeOf56 rfl rfl) (fun a hf => ?_)
      refine S.val hf hs (v := .string (ba name)) rfl rfl rfl (V.pure rfl) (fun a hf => ?_)
      refine S.call hf rfl rfl rfl (call_fn (vs := [.agg #[.string (ba x2.Name), .int .i64 x2.Size, .int .i64 x2.Life, .int .i64 x2.Stack], .string (ba name)]) rfl rfl rfl Try.call95) (R_toolAt1 x2 name _  _ h) (fun v a w' hf hr => ?_)
      obtain ⟨y2, rfl, h2, hs2⟩ := hr
      replace h := h2; replace hs := hs.call hs2; clear h2 hs2
      refine S.val hf hs (v := .bool (y2 == 0)) rfl rfl rfl (V.pure rfl) (fun a hf => ?_)
      refine S.val hf hs (v := .bool (y2 == 0)) rfl rfl rfl (V.pure rfl) (fun a hf => ?_)
      refine S.val hf hs (v := .int .i64 n3) rfl rfl rfl (V.pure rfl) (fun a hf => ?_)
      refine S.val hf hs (v := .bool (y2 == 0)) rfl rfl rfl (V.pure rfl) (fun a hf => ?_)
      refine R.nil ?_
      refine X.then_ ?_
      refine wp_ret ?_
      exact L.ret hf (run_results2 Try.results94 (ResIs.tmp hf rfl) (ResIs.tmp hf rfl)) ⟨n3, (y2 == 0), rfl, h, hs.nil⟩
    · replace h := h.2 hc
      refine S.skip hf rfl rfl rfl (fun a hf => ?_)
      refine S.skip hf rfl rfl rfl (fun a hf => ?_)
      refine S.skip hf rfl rfl rfl (fun a hf => ?_)
      refine S.skip hf rfl rfl rfl (fun a hf => ?_)
      refine S.skip hf rfl rfl rfl (fun a hf => ?_)
      refine S.skip hf rfl rfl rfl (fun a hf => ?_)
      refine S.skip hf rfl rfl rfl (fun a hf => ?_)
      refine S.skip hf rfl rfl rfl (fun a hf => ?_)
      refine S.val hf hs (v := .bool false) rfl rfl rfl (V.pure rfl) (fun a hf => ?_)
      refine S.val hf hs (v := .int .i64 n3) rfl rfl rfl (V.pure rfl) (fun a hf => ?_)
      refine S.val hf hs (v := .bool false) rfl rfl rfl (V.pure rfl) (fun a hf => ?_)
      refine R.nil ?_
      refine X.then_ ?_
      refine wp_ret ?_
      exact L.ret hf (run_results2 Try.results94 (ResIs.tmp hf rfl) (ResIs.tmp hf rfl)) ⟨n3, false, rfl, h, hs.nil⟩

set_option linter.unusedVariables false
def M_drill_toolAt (t : (List Bit)) (name : Str) (Q : Bit → Bool → Prop) : Prop :=
  M_search_bit t name fun y1 y2 => cnd (!y2) (Q (⟨[], 0, 0, 0⟩ : Bit) false) (idx t y1 fun x1 => Q x1 true)
set_option maxHeartbeats 1000000 in
theorem R_drill_toolAt (t : (List Bit)) (name : Str) (w0 : World) (tA : Option Addr) (tC : Nat) (hv_t : View w0 (old w0 none_) tA tC t) (Q : Bit → Bool → Prop) (h : M_drill_toolAt t name Q) :
    Ret Try.prog 76 #[.slice tA t.length tC, .string (ba name)] w0 fun v w' => ∃ (r0 : Bit) (r1 : Bool), v = .tuple #[.agg #[.string (ba r0.Name), .int .i64 r0.Size, .int .i64 r0.Life, .int .i64 r0.Stack], .bool r1] ∧ Q r0 r1 ∧ Sat w0 none_ [] w' := by
  refine fn_enter Try.func76 rfl Try.ntmps76 rfl (fs := [(0, .slice tA t.length tC), (1, .string (ba name))]) rfl (fun a hf => ?_)
  have hs := Sat.start w0 none_
  unfold M_drill_toolAt at h
  refine wp_seq ?_
  refine R.list ?_
  refine S.alloc hf hs rfl rfl rfl [.string (ba []), .int .i64 0, .int .i64 0, .int .i64 0] rfl Try.zeroValue56 rfl (fun g1 a w hf hs => ?_)
  refine S.val hf hs (v := .bool false) rfl rfl rfl (V.pure rfl) (fun a hf => ?_)
  refine R.nil ?_
  refine X.then_ ?_
  refine wp_seq ?_
  refine R.list ?_
  refine S.val hf hs (v := .slice tA t.length tC) rfl rfl rfl (V.pure rfl) (fun a hf => ?_)
  refine S.val hf hs (v := .string (ba name)) rfl rfl rfl (V.pure rfl) (fun a hf => ?_)
  refine S.call hf rfl rfl rfl (call_fn (vs := [.slice tA t.length tC, .string (ba name), .func (.func 95) #[] #[]]) rfl rfl rfl Try.call94) (R_search_bit t name _ tA tC ((Ag.args _ _ _).view hv_t hs) _ h) (fun v a w' hf hr => ?_)
  obtain ⟨y1, y2, rfl, h2, hs2⟩ := hr
  replace h := h2; replace hs := hs.call hs2; clear h2 hs2
  refine S.val hf hs (v := .tuple #[.int .i64 y1, .bool y2]) rfl rfl rfl (V.pure rfl) (fun a hf => ?_)
  refine S.val hf hs (v := .int .i64 y1) rfl rfl rfl (V.pure rfl) (fun a hf => ?_)
  refine S.val hf hs (v := .bool y2) rfl rfl rfl (V.pure rfl) (fun a hf => ?_)
  refine S.val hf hs (v := .int .i64 y1) rfl rfl rfl (V.pure rfl) (fun a hf => ?_)
  refine S.val hf hs (v := .bool y2) rfl rfl rfl (V.pure rfl) (fun a hf => ?_)
  refine R.nil ?_
  refine X.then_ ?_
  refine wp_seq ?_
  refine wp_seq ?_
  refine R.list ?_
  refine S.val hf hs (v := .bool y2) rfl rfl rfl (V.pure rfl) (fun a hf => ?_)
  refine S.val hf hs (v := .bool (!y2)) rfl rfl rfl (V.pure rfl) (fun a hf => ?_)
  refine R.nil ?_
  refine X.then_ ?_
  refine C.cond hf (b := !y2) rfl (fun hc => ?_) (fun hc => ?_)
  · replace h := h.1 hc
    refine wp_seq ?_
    refine R.list ?_
    refine S.val hf hs (v := .agg #[.string (ba []), .int .i64 0, .int .i64 0, .int .i64 0]) rfl rfl rfl (V.build (places := #[(0, 1), (1, 1), (2, 1), (3, 1)]) rfl Try.zeroValue56 Try.runUnderlying56 (by intro w; simp [Try.sizeOf3, Try.sizeOf9]) rfl rfl) (fun a hf => ?_)
    refine S.storeBox 0 hf hs rfl rfl [.string (ba []), .int .i64 0, .int .i64 0, .int .i64 0] [.string (ba []), .int .i64 0, .int .i64 0, .int .i64 0] rfl rfl rfl rfl rfl Try.sizeOf56 rfl rfl rfl rfl (fun a w hf hs => ?_)
    refine S.val hf hs (v := .bool false) rfl rfl rfl (V.pure rfl) (fun a hf => ?_)
    refine R.nil ?_
    refine X.then_ ?_
    refine wp_ret ?_
    refine X.then_ret ?_
    exact L.ret hf (run_results2 Try.results76 (ResIs.box hf hs 0 rfl rfl Try.isAgg56 Try.sizeOf56 rfl rfl) (ResIs.tmp hf rfl)) ⟨(⟨[], 0, 0, 0⟩ : Bit), false, rfl, h, hs.nil⟩
  · replace h := h.2 hc
    refine wp_skip ?_
    refine X.then_ ?_
    refine wp_seq ?_
    refine R.list ?_
    refine S.val hf hs (v := .slice tA t.length tC) rfl rfl rfl (V.pure rfl) (fun a hf => ?_)
    refine S.val hf hs (v := .int .i64 y1) rfl rfl rfl (V.pure rfl) (fun a hf => ?_)
    obtain ⟨h0x1, x1, hx1, h⟩ := h
    refine S.val hf hs (v := elemPtr tA (y1.toNat * 4)) rfl rfl rfl (V.index rfl rfl rfl Try.runUnderlying48 Try.sizeOf56 (hv_t.some_ (lt_of_get hx1)) h0x1 (lt_of_get hx1) rfl) (fun a hf => ?_)
    refine S.val hf hs (v := .agg #[.string (ba x1.Name), .int .i64 x1.Size, .int .i64 x1.Life, .int .i64 x1.Stack]) rfl rfl rfl (V.loadEl (off := 0) (Ag.args _ _ _) (hv_t.flat hx1) rfl rfl rfl Try.isAgg56 Try.sizeOf56 rfl rfl) (fun a hf => ?_)
    refine S.storeBox 0 hf hs rfl rfl [.string (ba x1.Name), .int .i64 x1.Size, .int .i64 x1.Life, .int .i64 x1.Stack] [.string (ba x1.Name), .int .i64 x1.Size, .int .i64 x1.Life, .int .i64 x1.Stack] rfl rfl rfl rfl rfl Try.sizeOf56 rfl rfl rfl rfl (fun a w hf hs => ?_)
    refine S.val hf hs (v := .bool true) rfl rfl rfl (V.pure rfl) (fun a hf => ?_)
    refine R.nil ?_
    refine X.then_ ?_
    refine wp_ret ?_
    exact L.ret hf (run_results2 Try.results76 (ResIs.box hf hs 0 rfl rfl Try.isAgg56 Try.sizeOf56 rfl rfl) (ResIs.tmp hf rfl)) ⟨x1, true, rfl, h, hs.nil⟩

set_option linter.unusedVariables false
def M_CheckJobs1 (y : Job) (x_ : Job) (Q : Bool → Prop) : Prop :=
  Q (y.Tool == x_.Tool)
set_option maxHeartbeats 1000000 in
theorem R_CheckJobs1 (y : Job) (x_ : Job) (w0 : World) (y_HolesA : Option Addr) (y_HolesC : Nat) (hv_y_Holes : View w0 (old w0 none_) y_HolesA y_HolesC y.Holes) (x__HolesA : Option Addr) (x__HolesC : Nat) (hv_x__Holes : View w0 (old w0 none_) x__HolesA x__HolesC x_.Holes) (x_g : Nat) (hb_x_ : ElemAt w0 (old w0 none_) (some ⟨x_g, 0, none⟩) 0 [.string (ba x_.Tool), .slice x__HolesA x_.Holes.length x__HolesC]) (Q : Bool → Prop) (h : M_CheckJobs1 y x_ Q) :
    Ret Try.prog 78 #[.agg #[.string (ba y.Tool), .slice y_HolesA y.Holes.length y_HolesC], .pointer (some ⟨x_g, 0, none⟩)] w0 fun v w' => ∃ (r0 : Bool), v = .bool r0 ∧ Q r0 ∧ Sat w0 none_ [] w' := by
  refine fn_enter Try.func78 rfl Try.ntmps78 rfl (fs := [(0, .agg #[.string (ba y.Tool), .slice y_HolesA y.Holes.length y_HolesC]), (1, .pointer (some ⟨x_g, 0, none⟩))]) rfl (fun a hf => ?_)
  have hs := Sat.start w0 none_
  unfold M_CheckJobs1 at h
  refine wp_seq ?_
  refine R.list ?_
  refine S.box hf hs rfl rfl rfl [.string (ba y.Tool), .slice y_HolesA y.Holes.length y_HolesC] rfl rfl rfl (fun g1 a w hf hs => ?_)
  refine S.val hf hs (v := .bool false) rfl rfl rfl (V.pure rfl) (fun a hf => ?_)
  refine R.nil ?_
  refine X.then_ ?_
  refine wp_seq ?_
  refine R.list ?_
  refine S.val hf hs (v := .pointer (some ⟨g1, 0, none⟩)) rfl rfl rfl (V.fieldBox rfl rfl Try.runUnderlying54 rfl Try.sizeOf9 rfl rfl) (fun a hf => ?_)
  refine S.val hf hs (v := .string (ba y.Tool)) rfl rfl rfl (V.loadBox 0 rfl rfl rfl Try.isAgg9 Try.sizeOf9 rfl rfl) (fun a hf => ?_)
  refine S.val hf hs (v := .pointer (some ⟨x_g, 0, none⟩)) rfl rfl rfl (V.fieldBox rfl rfl Try.runUnderlying54 rfl Try.sizeOf9 rfl rfl) (fun a hf => ?_)
  refine S.val hf hs (v := .string (ba x_.Tool)) rfl rfl rfl (V.loadAt0 (off := 0) (Ag.args _ _ _) hb_x_ rfl rfl Try.isAgg9 Try.sizeOf9 rfl rfl) (fun a hf => ?_)
  refine S.val hf hs (v := .bool (y.Tool == x_.Tool)) rfl rfl rfl (V.strCmp (y.Tool == x_.Tool) rfl rfl rfl rfl) (fun a hf => ?_)
  refine S.val hf hs (v := .bool (y.Tool == x_.Tool)) rfl rfl rfl (V.pure rfl) (fun a hf => ?_)
  refine R.nil ?_
  refine X.then_ ?_
  refine wp_ret ?_
  exact L.ret hf (run_results1 Try.results78 (ResIs.tmp hf rfl)) ⟨(y.Tool == x_.Tool), rfl, h, hs.nil⟩

set_option linter.unusedVariables false
def M_index_sameTool_L1 (x_ : Job) (Q : Int → Prop) (k1 : Nat) (xk1 : Job)  (next1 : Prop) : Prop :=
  M_CheckJobs1 xk1 x_ fun y1 => cnd y1 (Q (k1 : Int)) (next1)
def M_index_sameTool (l : (List Job)) (x_ : Job) (Q : Int → Prop) : Prop :=
  forIn' (fun k x (s : Unit) next => M_index_sameTool_L1 x_ Q k x (next ())) (fun (s : Unit) => Q (-1)) l 0 ()
set_option maxHeartbeats 1000000 in
theorem R_index_sameTool (l : (List Job)) (x_ : Job) (w0 : World) (lA : Option Addr) (lC : Nat) (hv_l : View w0 (old w0 none_) lA lC l) (x__HolesA : Option Addr) (x__HolesC : Nat) (hv_x__Holes : View w0 (old w0 none_) x__HolesA x__HolesC x_.Holes) (x_g : Nat) (hb_x_ : ElemAt w0 (old w0 none_) (some ⟨x_g, 0, none⟩) 0 [.string (ba x_.Tool), .slice x__HolesA x_.Holes.length x__HolesC]) (Q : Int → Prop) (h : M_index_sameTool l x_ Q) :
    Ret Try.prog 97 #[.slice lA l.length lC, .func (.func 78) #[] #[.pointer (some ⟨x_g, 0, none⟩)]] w0 fun v w' => ∃ (r0 : Int), v = .int .i64 r0 ∧ Q r0 ∧ Sat w0 none_ [] w' := by
  refine fn_enter Try.func97 rfl Try.ntmps97 rfl (fs := [(0, .slice lA l.length lC), (1, .func (.func 78) #[] #[.pointer (some ⟨x_g, 0, none⟩)])]) rfl (fun a hf => ?_)
  have hs := Sat.start w0 none_
  unfold M_index_sameTool at h
  refine wp_seq ?_
  refine R.list ?_
  refine S.val hf hs (v := .int .i64 0) rfl rfl rfl (V.pure rfl) (fun a hf => ?_)
  refine R.nil ?_
  refine X.then_ ?_
  refine wp_seq ?_
  refine wp_seq ?_
  refine R.list ?_
  refine S.val hf hs (v := .slice lA l.length lC) rfl rfl rfl (V.pure rfl) (fun a hf => ?_)
  refine S.val hf hs (v := .int .i64 (l.length : Int)) rfl rfl rfl (V.len rfl rfl Try.runUnderlying49) (fun a hf => ?_)
  refine S.val hf hs (v := .int .i64 0) rfl rfl rfl (V.pure rfl) (fun a hf => ?_)
  refine R.nil ?_
  refine X.then_ ?_
  refine wp_block ?_
  have hlenk1 := hv_l.len64
  refine C.range (fun (ll : List Job) a w => ∃ (k1 : Nat) , l.drop k1 = ll ∧ k1 + ll.length = l.length ∧ forIn' (fun k x (s : Unit) next => M_index_sameTool_L1 x_ Q k x (next ())) (fun (s : Unit) => Q (-1)) ll k1 () ∧ FrOk 19 [(8, .int .i64 (k1 : Int)), (0, .slice lA l.length lC), (1, .func (.func 78) #[] #[.pointer (some ⟨x_g, 0, none⟩)]), (7, .int .i64 (l.length : Int))] a ∧ Sat w0 none_ [] w) l ⟨0, rfl, Nat.zero_add _, h, ((((hf.nil.cons (hf.get 7 _ rfl)).cons (hf.get 1 _ rfl)).cons (hf.get 0 _ rfl)).cons (hf.get 8 _ rfl)), hs⟩ ?_
  clear h hf hs
  rintro llk1 a w ⟨k1, hlk1, hkk1, h, hf, hs⟩
  cases llk1 with
  | nil =>
    have hc := range_done hkk1
    replace h : Q (-1) := h
    refine wp_seq ?_
    refine R.list ?_
    refine S.val hf hs (v := .bool false) rfl rfl rfl (V.cmp false rfl rfl rfl rfl hc) (fun a hf => ?_)
    refine R.nil ?_
    refine X.then_ ?_
    refine wp_seq ?_
    refine C.no hf rfl ?_
    refine wp_exit ?_
    refine X.then_exit ?_
    refine X.then_exit ?_
    refine X.blk_exit ?_
    refine X.then_ ?_
    refine wp_seq ?_
    refine R.list ?_
    refine S.val hf hs (v := .int .i64 (-1)) rfl rfl rfl (V.pure rfl) (fun a hf => ?_)
    refine R.nil ?_
    refine X.then_ ?_
    refine wp_ret ?_
    exact L.ret hf (run_results1 Try.results97 (ResIs.tmp hf rfl)) ⟨(-1), rfl, h, hs.nil⟩
  | cons xk1 llk1 =>
    have hltk1 := range_lt hkk1; have hc := range_go hkk1; have hxk1 := range_get hlk1
    obtain ⟨next1, hnext1⟩ : ∃ X : Prop, X = (forIn' (fun k x (s : Unit) next => M_index_sameTool_L1 x_ Q k x (next ())) (fun (s : Unit) => Q (-1)) llk1 (k1 + 1) ()) := ⟨_, rfl⟩
    replace h : M_index_sameTool_L1 x_ Q k1 xk1  next1 := by rw [hnext1]; exact h
    unfold M_index_sameTool_L1 at h
    refine wp_seq ?_
    refine R.list ?_
    refine S.val hf hs (v := .bool true) rfl rfl rfl (V.cmp true rfl rfl rfl rfl hc) (fun a hf => ?_)
    refine R.nil ?_
    refine X.then_ ?_
    refine wp_seq ?_
    refine C.yes hf rfl ?_
    refine wp_skip ?_
    refine X.then_ ?_
    refine wp_seq ?_
    refine wp_block ?_
    refine wp_seq ?_
    refine R.list ?_
    refine S.val hf hs (v := .int .i64 (k1 : Int)) rfl rfl rfl (V.pure rfl) (fun a hf => ?_)
    refine S.val hf hs (v := .int .i64 (k1 : Int)) rfl rfl rfl (V.pure rfl) (fun a hf => ?_)
    refine R.nil ?_
    refine X.then_ ?_
    refine wp_seq ?_
    refine R.list ?_
    refine S.val hf hs (v := .func (.func 78) #[] #[.pointer (some ⟨x_g, 0, none⟩)]) rfl rfl rfl (V.pure rfl) (fun a hf => ?_)
    refine S.val hf hs (v := .slice lA l.length lC) rfl rfl rfl (V.pure rfl) (fun a hf => ?_)
    refine S.val hf hs (v := .int .i64 (k1 : Int)) rfl rfl rfl (V.pure rfl) (fun a hf => ?_)
    obtain ⟨cs1, he1, hr1⟩ := hv_l.at_ _ _ hxk1
    obtain ⟨u1A, u1C, rfl, hvu1⟩ := hr1
    refine S.val hf hs (v := elemPtr lA (k1 * 2)) rfl rfl rfl (V.index rfl rfl rfl Try.runUnderlying49 Try.sizeOf54 (hv_l.some_ (lt_of_get hxk1)) (Int.natCast_nonneg _) (lt_of_get hxk1) rfl) (fun a hf => ?_)
    refine S.val hf hs (v := .agg #[.string (ba xk1.Tool), .slice u1A xk1.Holes.length u1C]) rfl rfl rfl (V.loadEl (off := 0) (Ag.args _ _ _) he1 rfl rfl rfl Try.isAgg54 Try.sizeOf54 rfl rfl) (fun a hf => ?_)
    refine S.call hf rfl rfl rfl (call_run (args := #[.agg #[.string (ba xk1.Tool), .slice u1A xk1.Holes.length u1C], .pointer (some ⟨x_g, 0, none⟩)]) rfl rfl rfl Try.call78 (by simp)) (R_CheckJobs1 xk1 x_ _ u1A u1C ((Ag.args _ _ _).view hvu1 hs) x__HolesA x__HolesC ((Ag.args _ _ _).view hv_x__Holes hs) x_g ((Ag.args _ _ _).elem hb_x_ hs) _ h) (fun v a w' hf hr => ?_)
    obtain ⟨y1, rfl, h2, hs2⟩ := hr
    replace h := h2; replace hs := hs.call hs2; clear h2 hs2
    refine R.nil ?_
    refine X.then_ ?_
    refine C.cond hf (b := y1) rfl (fun hc => ?_) (fun hc => ?_)
    · replace h := h.1 hc
      refine wp_seq ?_
      refine R.list ?_
      refine S.val hf hs (v := .int .i64 (k1 : Int)) rfl rfl rfl (V.pure rfl) (fun a hf => ?_)
      refine S.val hf hs (v := .int .i64 (k1 : Int)) rfl rfl rfl (V.pure rfl) (fun a hf => ?_)
      refine R.nil ?_
      refine X.then_ ?_
      refine wp_ret ?_
      refine X.blk_ret ?_
      refine X.then_ret ?_
      refine X.then_ret ?_
      refine X.blk_ret ?_
      refine X.then_ret ?_
      exact L.ret hf (run_results1 Try.results97 (ResIs.tmp hf rfl)) ⟨(k1 : Int), rfl, h, hs.nil⟩
    · replace h := h.2 hc
      refine wp_skip ?_
      refine X.blk ?_
      refine X.then_ ?_
      refine R.list ?_
      refine S.val hf hs (v := .int .i64 ((k1 + 1 : Nat) : Int)) rfl rfl rfl (V.incr rfl rfl rfl hltk1 hlenk1) (fun a hf => ?_)
      refine S.val hf hs (v := .int .i64 ((k1 + 1 : Nat) : Int)) rfl rfl rfl (V.pure rfl) (fun a hf => ?_)
      refine R.nil ?_
      refine X.then_ ?_
      exact ⟨xk1, llk1, rfl, k1 + 1, range_drop hlk1, range_len hkk1, (by rw [hnext1] at h; exact h), ((((hf.nil.cons (hf.get 7 _ rfl)).cons (hf.get 1 _ rfl)).cons (hf.get 0 _ rfl)).cons (hf.get 8 _ rfl)), hs⟩

set_option linter.unusedVariables false
def M_contains_sameTool (l : (List Job)) (x_ : Job) (Q : Bool → Prop) : Prop :=
  M_index_sameTool l x_ fun y1 => Q (decide (y1 ≥ 0))
set_option maxHeartbeats 1000000 in
theorem R_contains_sameTool (l : (List Job)) (x_ : Job) (w0 : World) (lA : Option Addr) (lC : Nat) (hv_l : View w0 (old w0 none_) lA lC l) (x__HolesA : Option Addr) (x__HolesC : Nat) (hv_x__Holes : View w0 (old w0 none_) x__HolesA x__HolesC x_.Holes) (x_g : Nat) (hb_x_ : ElemAt w0 (old w0 none_) (some ⟨x_g, 0, none⟩) 0 [.string (ba x_.Tool), .slice x__HolesA x_.Holes.length x__HolesC]) (Q : Bool → Prop) (h : M_contains_sameTool l x_ Q) :
    Ret Try.prog 77 #[.slice lA l.length lC, .func (.func 78) #[] #[.pointer (some ⟨x_g, 0, none⟩)]] w0 fun v w' => ∃ (r0 : Bool), v = .bool r0 ∧ Q r0 ∧ Sat w0 none_ [] w' := by
  refine fn_enter Try.func77 rfl Try.ntmps77 rfl (fs := [(0, .slice lA l.length lC), (1, .func (.func 78) #[] #[.pointer (some ⟨x_g, 0, none⟩)])]) rfl (fun a hf => ?_)
  have hs := Sat.start w0 none_
  unfold M_contains_sameTool at h
  refine wp_seq ?_
  refine R.list ?_
  refine S.val hf hs (v := .bool false) rfl rfl rfl (V.pure rfl) (fun a hf => ?_)
  refine R.nil ?_
  refine X.then_ ?_
  refine wp_seq ?_
  refine R.list ?_
  refine S.val hf hs (v := .slice lA l.length lC) rfl rfl rfl (V.pure rfl) (fun a hf => ?_)
  refine S.val hf hs (v := .func (.func 78) #[] #[.pointer (some ⟨x_g, 0, none⟩)]) rfl rfl rfl (V.pure rfl) (fun a hf => ?_)
  refine S.call hf rfl rfl rfl (call_fn (vs := [.slice lA l.length lC, .func (.func 78) #[] #[.pointer (some ⟨x_g, 0, none⟩)]]) rfl rfl rfl Try.call97) (R_index_sameTool l x_ _ lA lC ((Ag.args _ _ _).view hv_l hs) x__HolesA x__HolesC ((Ag.args _ _ _).view hv_x__Holes hs) x_g ((Ag.args _ _ _).elem hb_x_ hs) _ h) (fun v a w' hf hr => ?_)
  obtain ⟨y1, rfl, h2, hs2⟩ := hr
  replace h := h2; replace hs := hs.call hs2; clear h2 hs2
  refine S.val hf hs (v := .bool (decide (y1 ≥ 0))) rfl rfl rfl (V.pure rfl) (fun a hf => ?_)
  refine S.val hf hs (v := .bool (decide (y1 ≥ 0))) rfl rfl rfl (V.pure rfl) (fun a hf => ?_)
  refine R.nil ?_
  refine X.then_ ?_
  refine wp_ret ?_
  exact L.ret hf (run_results1 Try.results77 (ResIs.tmp hf rfl)) ⟨(decide (y1 ≥ 0)), rfl, h, hs.nil⟩

set_option linter.unusedVariables false
def M_drill_CheckJobs_L1 (t : (List Bit)) (j : (List Job)) (Q : Int → Prop) (k1 : Nat) (xk1 : Job) (n2 : Int) (next1 : Int → Prop) : Prop :=
  M_drill_toolAt t xk1.Tool fun y2 y3 => cnd (!y3) (Q 9) (must (0 ≤ (0 : Int) ∧ (0 : Int) ≤ (k1 : Int) ∧ (k1 : Int) ≤ (j.length : Int)) (M_contains_sameTool (seg j (0 : Int) (k1 : Int)) xk1 fun y4 => cnd y4 (Q 7) (M_drill_CheckHoles xk1.Holes fun y5 => cnd (y5 != 0) (Q y5) (next1 (w64 (n2 + (xk1.Holes.length : Int)))))))
def M_drill_CheckJobs (t : (List Bit)) (j : (List Job)) (Q : Int → Prop) : Prop :=
  M_drill_CheckTools t fun y1 => cnd (y1 != 0) (Q y1) (cnd (decide ((j.length : Int) > 100)) (Q 2) (forIn' (fun k x (s : Int) next => M_drill_CheckJobs_L1 t j Q k x s (fun n2 => next n2)) (fun (s : Int) => (fun (n2 : Int) => cnd (decide (n2 > 2000)) (Q 2) (Q 0)) s) j 0 0))
set_option maxHeartbeats 1000000 in
theorem R_drill_CheckJobs (t : (List Bit)) (j : (List Job)) (w0 : World) (tA : Option Addr) (tC : Nat) (hv_t : View w0 (old w0 none_) tA tC t) (jA : Option Addr) (jC : Nat) (hv_j : View w0 (old w0 none_) jA jC j) (Q : Int → Prop) (h : M_drill_CheckJobs t j Q) :
    Ret Try.prog 42 #[.slice tA t.length tC, .slice jA j.length jC] w0 fun v w' => ∃ (r0 : Int), v = .int .i64 r0 ∧ Q r0 ∧ Sat w0 none_ [] w' := by
  refine fn_enter Try.func42 rfl Try.ntmps42 rfl (fs := [(0, .slice tA t.length tC), (1, .slice jA j.length jC)]) rfl (fun a hf => ?_)
  have hs := Sat.start w0 none_
  unfold M_drill_CheckJobs at h
  refine wp_seq ?_
  refine R.list ?_
  refine S.val hf hs (v := .int .i64 0) rfl rfl rfl (V.pure rfl) (fun a hf => ?_)
  refine R.nil ?_
  refine X.then_ ?_
  refine wp_seq ?_
  refine wp_seq ?_
  refine R.list ?_
  refine S.val hf hs (v := .slice tA t.length tC) rfl rfl rfl (V.pure rfl) (fun a hf => ?_)
  refine S.call hf rfl rfl rfl (call_fn (vs := [.slice tA t.length tC]) rfl rfl rfl Try.call68) (R_drill_CheckTools t _ tA tC ((Ag.args _ _ _).view hv_t hs) _ h) (fun v a w' hf hr => ?_)
  obtain ⟨y1, rfl, h2, hs2⟩ := hr
  replace h := h2; replace hs := hs.call hs2; clear h2 hs2
  refine S.val hf hs (v := .int .i64 y1) rfl rfl rfl (V.pure rfl) (fun a hf => ?_)
  refine R.nil ?_
  refine X.then_ ?_
  refine wp_seq ?_
  refine R.list ?_
  refine S.val hf hs (v := .int .i64 y1) rfl rfl rfl (V.pure rfl) (fun a hf => ?_)
  refine S.val hf hs (v := .bool (y1 != 0)) rfl rfl rfl (V.pure rfl) (fun a hf => ?_)
  refine R.nil ?_
  refine X.then_ ?_
  refine C.cond hf (b := y1 != 0) rfl (fun hc => ?_) (fun hc => ?_)
  · replace h := h.1 hc
    refine wp_seq ?_
    refine R.list ?_
    refine S.val hf hs (v := .int .i64 y1) rfl rfl rfl (V.pure rfl) (fun a hf => ?_)
    refine S.val hf hs (v := .int .i64 y1) rfl rfl rfl (V.pure rfl) (fun a hf => ?_)
    refine R.nil ?_
    refine X.then_ ?_
    refine wp_ret ?_
    refine X.then_ret ?_
    exact L.ret hf (run_results1 Try.results42 (ResIs.tmp hf rfl)) ⟨y1, rfl, h, hs.nil⟩
  · replace h := h.2 hc
    refine wp_skip ?_
    refine X.then_ ?_
    refine wp_seq ?_
    refine wp_seq ?_
    refine R.list ?_
    refine S.val hf hs (v := .slice jA j.length jC) rfl rfl rfl (V.pure rfl) (fun a hf => ?_)
    refine S.val hf hs (v := .int .i64 (j.length : Int)) rfl rfl rfl (V.len rfl rfl Try.runUnderlying49) (fun a hf => ?_)
    refine S.val hf hs (v := .bool (decide ((j.length : Int) > 100))) rfl rfl rfl (V.pure rfl) (fun a hf => ?_)
    refine R.nil ?_
    refine X.then_ ?_
    refine C.cond hf (b := decide ((j.length : Int) > 100)) rfl (fun hc => ?_) (fun hc => ?_)
    · replace h := h.1 hc
      refine wp_seq ?_
      refine R.list ?_
      refine S.val hf hs (v := .int .i64 2) rfl rfl rfl (V.pure rfl) (fun a hf => ?_)
      refine R.nil ?_
      refine X.then_ ?_
      refine wp_ret ?_
      refine X.then_ret ?_
      exact L.ret hf (run_results1 Try.results42 (ResIs.tmp hf rfl)) ⟨2, rfl, h, hs.nil⟩
    · replace h := h.2 hc
      refine wp_skip ?_
      refine X.then_ ?_
      refine wp_seq ?_
      refine R.list ?_
      refine S.val hf hs (v := .int .i64 0) rfl rfl rfl (V.pure rfl) (fun a hf => ?_)
      refine R.nil ?_
      refine X.then_ ?_
      refine wp_seq ?_
      refine wp_seq ?_
      refine R.list ?_
      refine S.val hf hs (v := .slice jA j.length jC) rfl rfl rfl (V.pure rfl) (fun a hf => ?_)
      refine S.val hf hs (v := .int .i64 (j.length : Int)) rfl rfl rfl (V.len rfl rfl Try.runUnderlying49) (fun a hf => ?_)
      refine S.val hf hs (v := .int .i64 0) rfl rfl rfl (V.pure rfl) (fun a hf => ?_)
      refine R.nil ?_
      refine X.then_ ?_
      refine wp_block ?_
      have hlenk1 := hv_j.len64
      refine C.range (fun (ll : List Job) a w => ∃ (k1 : Nat) (n2 : Int), j.drop k1 = ll ∧ k1 + ll.length = j.length ∧ forIn' (fun k x (s : Int) next => M_drill_CheckJobs_L1 t j Q k x s (fun n2 => next n2)) (fun (s : Int) => (fun (n2 : Int) => cnd (decide (n2 > 2000)) (Q 2) (Q 0)) s) ll k1 n2 ∧ FrOk 55 [(22, .int .i64 (k1 : Int)), (0, .slice tA t.length tC), (1, .slice jA j.length jC), (6, .int .i64 n2), (20, .slice jA j.length jC), (21, .int .i64 (j.length : Int))] a ∧ Sat w0 none_ [] w) j ⟨0, 0, rfl, Nat.zero_add _, h, ((((((hf.nil.cons (hf.get 21 _ rfl)).cons (hf.get 20 _ rfl)).cons (hf.get 6 _ rfl)).cons (hf.get 1 _ rfl)).cons (hf.get 0 _ rfl)).cons (hf.get 22 _ rfl)), hs⟩ ?_
      clear h hf hs
      rintro llk1 a w ⟨k1, n2, hlk1, hkk1, h, hf, hs⟩
      cases llk1 with
      | nil =>
        have hc := range_done hkk1
        replace h : (fun (n2 : Int) => cnd (decide (n2 > 2000)) (Q 2) (Q 0)) n2 := h
        refine wp_seq ?_
        refine R.list ?_
        refine S.val hf hs (v := .bool false) rfl rfl rfl (V.cmp false rfl rfl rfl rfl hc) (fun a hf => ?_)
        refine R.nil ?_
        refine X.then_ ?_
        refine wp_seq ?_
        refine C.no hf rfl ?_
        refine wp_exit ?_
        refine X.then_exit ?_
        refine X.then_exit ?_
        refine X.blk_exit ?_
        refine X.then_ ?_
        refine wp_seq ?_
        refine wp_seq ?_
        refine R.list ?_
        refine S.val hf hs (v := .int .i64 n2) rfl rfl rfl (V.pure rfl) (fun a hf => ?_)
        refine S.val hf hs (v := .bool (decide (n2 > 2000))) rfl rfl rfl (V.pure rfl) (fun a hf => ?_)
        refine R.nil ?_
        refine X.then_ ?_
        refine C.cond hf (b := decide (n2 > 2000)) rfl (fun hc => ?_) (fun hc => ?_)
        · replace h := h.1 hc
          refine wp_seq ?_
          refine R.list ?_
          refine S.val hf hs (v := .int .i64 2) rfl rfl rfl (V.pure rfl) (fun a hf => ?_)
          refine R.nil ?_
          refine X.then_ ?_
          refine wp_ret ?_
          refine X.then_ret ?_
          exact L.ret hf (run_results1 Try.results42 (ResIs.tmp hf rfl)) ⟨2, rfl, h, hs.nil⟩
        · replace h := h.2 hc
          refine wp_skip ?_
          refine X.then_ ?_
          refine wp_seq ?_
          refine R.list ?_
          refine S.val hf hs (v := .int .i64 0) rfl rfl rfl (V.pure rfl) (fun a hf => ?_)
          refine R.nil ?_
          refine X.then_ ?_
          refine wp_ret ?_
          exact L.ret hf (run_results1 Try.results42 (ResIs.tmp hf rfl)) ⟨0, rfl, h, hs.nil⟩
      | cons xk1 llk1 =>
        have hltk1 := range_lt hkk1; have hc := range_go hkk1; have hxk1 := range_get hlk1
        obtain ⟨next1, hnext1⟩ : ∃ X : Int → Prop, X = (fun n2 => forIn' (fun k x (s : Int) next => M_drill_CheckJobs_L1 t j Q k x s (fun n2 => next n2)) (fun (s : Int) => (fun (n2 : Int) => cnd (decide (n2 > 2000)) (Q 2) (Q 0)) s) llk1 (k1 + 1) n2) := ⟨_, rfl⟩
        replace h : M_drill_CheckJobs_L1 t j Q k1 xk1 n2 next1 := by rw [hnext1]; exact h
        unfold M_drill_CheckJobs_L1 at h
        refine wp_seq ?_
        refine R.list ?_
        refine S.val hf hs (v := .bool true) rfl rfl rfl (V.cmp true rfl rfl rfl rfl hc) (fun a hf => ?_)
        refine R.nil ?_
        refine X.then_ ?_
        refine wp_seq ?_
        refine C.yes hf rfl ?_
        refine wp_skip ?_
        refine X.then_ ?_
        refine wp_seq ?_
        refine wp_block ?_
        refine wp_seq ?_
        refine R.list ?_
        refine S.val hf hs (v := .int .i64 (k1 : Int)) rfl rfl rfl (V.pure rfl) (fun a hf => ?_)
        obtain ⟨cs1, he1, hr1⟩ := hv_j.at_ _ _ hxk1
        obtain ⟨u1A, u1C, rfl, hvu1⟩ := hr1
        refine S.val hf hs (v := elemPtr jA (k1 * 2)) rfl rfl rfl (V.index rfl rfl rfl Try.runUnderlying49 Try.sizeOf54 (hv_j.some_ (lt_of_get hxk1)) (Int.natCast_nonneg _) (lt_of_get hxk1) rfl) (fun a hf => ?_)
        refine S.val hf hs (v := .agg #[.string (ba xk1.Tool), .slice u1A xk1.Holes.length u1C]) rfl rfl rfl (V.loadEl (off := 0) (Ag.args _ _ _) he1 rfl rfl rfl Try.isAgg54 Try.sizeOf54 rfl rfl) (fun a hf => ?_)
        refine S.alloc hf hs rfl rfl rfl [.string (ba []), .slice none 0 0] rfl Try.zeroValue54 rfl (fun g1 a w hf hs => ?_)
        refine S.val hf hs (v := .int .i64 (k1 : Int)) rfl rfl rfl (V.pure rfl) (fun a hf => ?_)
        refine S.storeBox 0 hf hs rfl rfl [.string (ba xk1.Tool), .slice u1A xk1.Holes.length u1C] [.string (ba xk1.Tool), .slice u1A xk1.Holes.length u1C] rfl rfl rfl rfl rfl Try.sizeOf54 rfl rfl rfl rfl (fun a w hf hs => ?_)
        refine R.nil ?_
        refine X.then_ ?_
        refine wp_seq ?_
        refine wp_seq ?_
        refine R.list ?_
        refine S.val hf hs (v := .slice tA t.length tC) rfl rfl rfl (V.pure rfl) (fun a hf => ?_)
        refine S.val hf hs (v := .pointer (some ⟨g1, 0, none⟩)) rfl rfl rfl (V.fieldBox rfl rfl Try.runUnderlying54 rfl Try.sizeOf9 rfl rfl) (fun a hf => ?_)
        refine S.val hf hs (v := .string (ba xk1.Tool)) rfl rfl rfl (V.loadBox 0 rfl rfl rfl Try.isAgg9 Try.sizeOf9 rfl rfl) (fun a hf => ?_)
        refine S.call hf rfl rfl rfl (call_fn (vs := [.slice tA t.length tC, .string (ba xk1.Tool)]) rfl rfl rfl Try.call76) (R_drill_toolAt t xk1.Tool _ tA tC ((Ag.args _ _ _).view hv_t hs) _ h) (fun v a w' hf hr => ?_)
        obtain ⟨y2, y3, rfl, h2, hs2⟩ := hr
        replace h := h2; replace hs := hs.call hs2; clear h2 hs2
        refine S.val hf hs (v := .tuple #[.agg #[.string (ba y2.Name), .int .i64 y2.Size, .int .i64 y2.Life, .int .i64 y2.Stack], .bool y3]) rfl rfl rfl (V.pure rfl) (fun a hf => ?_)
        refine S.val hf hs (v := .agg #[.string (ba y2.Name), .int .i64 y2.Size, .int .i64 y2.Life, .int .i64 y2.Stack]) rfl rfl rfl (V.pure rfl) (fun a hf => ?_)
        refine S.val hf hs (v := .bool y3) rfl rfl rfl (V.pure rfl) (fun a hf => ?_)
        refine S.alloc hf hs rfl rfl rfl [.string (ba []), .int .i64 0, .int .i64 0, .int .i64 0] rfl Try.zeroValue56 rfl (fun g2 a w hf hs => ?_)
        refine S.storeBox 0 hf hs rfl rfl [.string (ba y2.Name), .int .i64 y2.Size, .int .i64 y2.Life, .int .i64 y2.Stack] [.string (ba y2.Name), .int .i64 y2.Size, .int .i64 y2.Life, .int .i64 y2.Stack] rfl rfl rfl rfl rfl Try.sizeOf56 rfl rfl rfl rfl (fun a w hf hs => ?_)
        refine S.val hf hs (v := .bool y3) rfl rfl rfl (V.pure rfl) (fun a hf => ?_)
        refine R.nil ?_
        refine X.then_ ?_
        refine wp_seq ?_
        refine R.list ?_
        refine S.val hf hs (v := .bool y3) rfl rfl rfl (V.pure rfl) (fun a hf => ?_)
        refine S.val hf hs (v := .bool (!y3)) rfl rfl rfl (V.pure rfl) (fun a hf => ?_)
        refine R.nil ?_
        refine X.then_ ?_
        refine C.cond hf (b := !y3) rfl (fun hc => ?_) (fun hc => ?_)
        · replace h := h.1 hc
          refine wp_seq ?_
          refine R.list ?_
          refine S.val hf hs (v := .int .i64 9) rfl rfl rfl (V.pure rfl) (fun a hf => ?_)
          refine R.nil ?_
          refine X.then_ ?_
          refine wp_ret ?_
          refine X.then_ret ?_
          refine X.blk_ret ?_
          refine X.then_ret ?_
          refine X.then_ret ?_
          refine X.blk_ret ?_
          refine X.then_ret ?_
          exact L.ret hf (run_results1 Try.results42 (ResIs.tmp hf rfl)) ⟨9, rfl, h, hs.nil⟩
        · replace h := h.2 hc
          refine wp_skip ?_
          refine X.then_ ?_
          refine wp_seq ?_
          refine wp_seq ?_
          refine R.list ?_
          refine S.val hf hs (v := .slice jA j.length jC) rfl rfl rfl (V.pure rfl) (fun a hf => ?_)
          refine S.val hf hs (v := .int .i64 (k1 : Int)) rfl rfl rfl (V.pure rfl) (fun a hf => ?_)
          obtain ⟨hp1, h⟩ := h
          refine S.val hf hs (v := .slice (segA jA jC ((0 : Int) : Int).toNat 2) (seg j (0 : Int) (k1 : Int)).length (jC - ((0 : Int) : Int).toNat)) rfl rfl rfl (V.slice rfl rfl rfl rfl Try.runUnderlying49 Try.sizeOf54 rfl rfl hp1 hv_j.cap (seg_length (by have := hp1.2.2; omega))) (fun a hf => ?_)
          refine S.val hf hs (v := .func (.func 78) #[] #[.pointer (some ⟨g1, 0, none⟩)]) rfl rfl rfl (V.pure rfl) (fun a hf => ?_)
          refine S.call hf rfl rfl rfl (call_fn (vs := [.slice (segA jA jC ((0 : Int) : Int).toNat 2) (seg j (0 : Int) (k1 : Int)).length (jC - ((0 : Int) : Int).toNat), .func (.func 78) #[] #[.pointer (some ⟨g1, 0, none⟩)]]) rfl rfl rfl Try.call77) (R_contains_sameTool (seg j (0 : Int) (k1 : Int)) xk1 _ (segA jA jC ((0 : Int) : Int).toNat 2) (jC - ((0 : Int) : Int).toNat) ((Ag.args _ _ _).view (View.sub hv_j hp1) hs) u1A u1C ((Ag.args _ _ _).view hvu1 hs) g1 (hs.boxAt 1 rfl) _ h) (fun v a w' hf hr => ?_)
          obtain ⟨y4, rfl, h2, hs2⟩ := hr
          replace h := h2; replace hs := hs.call hs2; clear h2 hs2
          refine R.nil ?_
          refine X.then_ ?_
          refine C.cond hf (b := y4) rfl (fun hc => ?_) (fun hc => ?_)
          · replace h := h.1 hc
            refine wp_seq ?_
            refine R.list ?_
            refine S.val hf hs (v := .int .i64 7) rfl rfl rfl (V.pure rfl) (fun a hf => ?_)
            refine R.nil ?_
            refine X.then_ ?_
            refine wp_ret ?_
            refine X.then_ret ?_
            refine X.blk_ret ?_
            refine X.then_ret ?_
            refine X.then_ret ?_
            refine X.blk_ret ?_
            refine X.then_ret ?_
            exact L.ret hf (run_results1 Try.results42 (ResIs.tmp hf rfl)) ⟨7, rfl, h, hs.nil⟩
          · replace h := h.2 hc
            refine wp_skip ?_
            refine X.then_ ?_
            refine wp_seq ?_
            refine wp_seq ?_
            refine R.list ?_
            refine S.val hf hs (v := .pointer (some ⟨g1, 1, none⟩)) rfl rfl rfl (V.fieldBox rfl rfl Try.runUnderlying54 rfl Try.sizeOf34 rfl rfl) (fun a hf => ?_)
            refine S.val hf hs (v := .slice u1A xk1.Holes.length u1C) rfl rfl rfl (V.loadBox 1 rfl rfl rfl Try.isAgg34 Try.sizeOf34 rfl rfl) (fun a hf => ?_)
            refine S.call hf rfl rfl rfl (call_fn (vs := [.slice u1A xk1.Holes.length u1C]) rfl rfl rfl Try.call54) (R_drill_CheckHoles xk1.Holes _ u1A u1C ((Ag.args _ _ _).view hvu1 hs) _ h) (fun v a w' hf hr => ?_)
            obtain ⟨y5, rfl, h2, hs2⟩ := hr
            replace h := h2; replace hs := hs.call hs2; clear h2 hs2
            refine S.val hf hs (v := .int .i64 y5) rfl rfl rfl (V.pure rfl) (fun a hf => ?_)
            refine R.nil ?_
            refine X.then_ ?_
            refine wp_seq ?_
            refine R.list ?_
            refine S.val hf hs (v := .int .i64 y5) rfl rfl rfl (V.pure rfl) (fun a hf => ?_)
            refine S.val hf hs (v := .bool (y5 != 0)) rfl rfl rfl (V.pure rfl) (fun a hf => ?_)
            refine R.nil ?_
            refine X.then_ ?_
            refine C.cond hf (b := y5 != 0) rfl (fun hc => ?_) (fun hc => ?_)
            · replace h := h.1 hc
              refine wp_seq ?_
              refine R.list ?_
              refine S.val hf hs (v := .int .i64 y5) rfl rfl rfl (V.pure rfl) (fun a hf => ?_)
              refine S.val hf hs (v := .int .i64 y5) rfl rfl rfl (V.pure rfl) (fun a hf => ?_)
              refine R.nil ?_
              refine X.then_ ?_
              refine wp_ret ?_
              refine X.then_ret ?_
              refine X.blk_ret ?_
              refine X.then_ret ?_
              refine X.then_ret ?_
              refine X.blk_ret ?_
              refine X.then_ret ?_
              exact L.ret hf (run_results1 Try.results42 (ResIs.tmp hf rfl)) ⟨y5, rfl, h, hs.nil⟩
            · replace h := h.2 hc
              refine wp_skip ?_
              refine X.then_ ?_
              refine R.list ?_
              refine S.val hf hs (v := .int .i64 n2) rfl rfl rfl (V.pure rfl) (fun a hf => ?_)
              refine S.val hf hs (v := .pointer (some ⟨g1, 1, none⟩)) rfl rfl rfl (V.fieldBox rfl rfl Try.runUnderlying54 rfl Try.sizeOf34 rfl rfl) (fun a hf => ?_)
              refine S.val hf hs (v := .slice u1A xk1.Holes.length u1C) rfl rfl rfl (V.loadBox 1 rfl rfl rfl Try.isAgg34 Try.sizeOf34 rfl rfl) (fun a hf => ?_)
              refine S.val hf hs (v := .int .i64 (xk1.Holes.length : Int)) rfl rfl rfl (V.len rfl rfl Try.runUnderlying34) (fun a hf => ?_)
              refine S.val hf hs (v := .int .i64 (w64 (n2 + (xk1.Holes.length : Int)))) rfl rfl rfl (V.pure rfl) (fun a hf => ?_)
              refine S.val hf hs (v := .int .i64 (w64 (n2 + (xk1.Holes.length : Int)))) rfl rfl rfl (V.pure rfl) (fun a hf => ?_)
              refine R.nil ?_
              refine X.blk ?_
              refine X.then_ ?_
              refine R.list ?_
              refine S.val hf hs (v := .int .i64 ((k1 + 1 : Nat) : Int)) rfl rfl rfl (V.incr rfl rfl rfl hltk1 hlenk1) (fun a hf => ?_)
              refine S.val hf hs (v := .int .i64 ((k1 + 1 : Nat) : Int)) rfl rfl rfl (V.pure rfl) (fun a hf => ?_)
              refine R.nil ?_
              refine X.then_ ?_
              exact ⟨xk1, llk1, rfl, k1 + 1, (w64 (n2 + (xk1.Holes.length : Int))), range_drop hlk1, range_len hkk1, (by rw [hnext1] at h; exact h), ((((((hf.nil.cons (hf.get 21 _ rfl)).cons (hf.get 20 _ rfl)).cons (hf.get 6 _ rfl)).cons (hf.get 1 _ rfl)).cons (hf.get 0 _ rfl)).cons (hf.get 22 _ rfl)), hs.drop.drop⟩

set_option linter.unusedVariables false
def M_ref8_bitOf_L1 (name : Str) (Q : Int → Prop) (k1 : Nat) (xk1 : Bit)  (next1 : Prop) : Prop :=
  cnd (xk1.Name == name) (Q (k1 : Int)) (next1)
def M_ref8_bitOf (t : (List Bit)) (name : Str) (Q : Int → Prop) : Prop :=
  forIn' (fun k x (s : Unit) next => M_ref8_bitOf_L1 name Q k x (next ())) (fun (s : Unit) => Q (-1)) t 0 ()
set_option maxHeartbeats 1000000 in
theorem R_ref8_bitOf (t : (List Bit)) (name : Str) (w0 : World) (tA : Option Addr) (tC : Nat) (hv_t : View w0 (old w0 none_) tA tC t) (Q : Int → Prop) (h : M_ref8_bitOf t name Q) :
    Ret Try.prog 79 #[.slice tA t.length tC, .string (ba name)] w0 fun v w' => ∃ (r0 : Int), v = .int .i64 r0 ∧ Q r0 ∧ Sat w0 none_ [] w' := by
  refine fn_enter Try.func79 rfl Try.ntmps79 rfl (fs := [(0, .slice tA t.length tC), (1, .string (ba name))]) rfl (fun a hf => ?_)
  have hs := Sat.start w0 none_
  unfold M_ref8_bitOf at h
  refine wp_seq ?_
  refine R.list ?_
  refine S.val hf hs (v := .int .i64 0) rfl rfl rfl (V.pure rfl) (fun a hf => ?_)
  refine R.nil ?_
  refine X.then_ ?_
  refine wp_seq ?_
  refine wp_seq ?_
  refine R.list ?_
  refine S.val hf hs (v := .slice tA t.length tC) rfl rfl rfl (V.pure rfl) (fun a hf => ?_)
  refine S.val hf hs (v := .int .i64 (t.length : Int)) rfl rfl rfl (V.len rfl rfl Try.runUnderlying48) (fun a hf => ?_)
  refine S.val hf hs (v := .int .i64 0) rfl rfl rfl (V.pure rfl) (fun a hf => ?_)
  refine R.nil ?_
  refine X.then_ ?_
  refine wp_block ?_
  have hlenk1 := hv_t.len64
  refine C.range (fun (ll : List Bit) a w => ∃ (k1 : Nat) , t.drop k1 = ll ∧ k1 + ll.length = t.length ∧ forIn' (fun k x (s : Unit) next => M_ref8_bitOf_L1 name Q k x (next ())) (fun (s : Unit) => Q (-1)) ll k1 () ∧ FrOk 20 [(9, .int .i64 (k1 : Int)), (1, .string (ba name)), (7, .slice tA t.length tC), (8, .int .i64 (t.length : Int))] a ∧ Sat w0 none_ [] w) t ⟨0, rfl, Nat.zero_add _, h, ((((hf.nil.cons (hf.get 8 _ rfl)).cons (hf.get 7 _ rfl)).cons (hf.get 1 _ rfl)).cons (hf.get 9 _ rfl)), hs⟩ ?_
  clear h hf hs
  rintro llk1 a w ⟨k1, hlk1, hkk1, h, hf, hs⟩
  cases llk1 with
  | nil =>
    have hc := range_done hkk1
    replace h : Q (-1) := h
    refine wp_seq ?_
    refine R.list ?_
    refine S.val hf hs (v := .bool false) rfl rfl rfl (V.cmp false rfl rfl rfl rfl hc) (fun a hf => ?_)
    refine R.nil ?_
    refine X.then_ ?_
    refine wp_seq ?_
    refine C.no hf rfl ?_
    refine wp_exit ?_
    refine X.then_exit ?_
    refine X.then_exit ?_
    refine X.blk_exit ?_
    refine X.then_ ?_
    refine wp_seq ?_
    refine R.list ?_
    refine S.val hf hs (v := .int .i64 (-1)) rfl rfl rfl (V.pure rfl) (fun a hf => ?_)
    refine R.nil ?_
    refine X.then_ ?_
    refine wp_ret ?_
    exact L.ret hf (run_results1 Try.results79 (ResIs.tmp hf rfl)) ⟨(-1), rfl, h, hs.nil⟩
  | cons xk1 llk1 =>
    have hltk1 := range_lt hkk1; have hc := range_go hkk1; have hxk1 := range_get hlk1
    obtain ⟨next1, hnext1⟩ : ∃ X : Prop, X = (forIn' (fun k x (s : Unit) next => M_ref8_bitOf_L1 name Q k x (next ())) (fun (s : Unit) => Q (-1)) llk1 (k1 + 1) ()) := ⟨_, rfl⟩
    replace h : M_ref8_bitOf_L1 name Q k1 xk1  next1 := by rw [hnext1]; exact h
    unfold M_ref8_bitOf_L1 at h
    refine wp_seq ?_
    refine R.list ?_
    refine S.val hf hs (v := .bool true) rfl rfl rfl (V.cmp true rfl rfl rfl rfl hc) (fun a hf => ?_)
    refine R.nil ?_
    refine X.then_ ?_
    refine wp_seq ?_
    refine C.yes hf rfl ?_
    refine wp_skip ?_
    refine X.then_ ?_
    refine wp_seq ?_
    refine wp_block ?_
    refine wp_seq ?_
    refine R.list ?_
    refine S.val hf hs (v := .int .i64 (k1 : Int)) rfl rfl rfl (V.pure rfl) (fun a hf => ?_)
    refine S.val hf hs (v := elemPtr tA (k1 * 4)) rfl rfl rfl (V.index rfl rfl rfl Try.runUnderlying48 Try.sizeOf56 (hv_t.some_ (lt_of_get hxk1)) (Int.natCast_nonneg _) (lt_of_get hxk1) rfl) (fun a hf => ?_)
    refine S.val hf hs (v := .agg #[.string (ba xk1.Name), .int .i64 xk1.Size, .int .i64 xk1.Life, .int .i64 xk1.Stack]) rfl rfl rfl (V.loadEl (off := 0) (Ag.args _ _ _) (hv_t.flat hxk1) rfl rfl rfl Try.isAgg56 Try.sizeOf56 rfl rfl) (fun a hf => ?_)
    refine S.alloc hf hs rfl rfl rfl [.string (ba []), .int .i64 0, .int .i64 0, .int .i64 0] rfl Try.zeroValue56 rfl (fun g1 a w hf hs => ?_)
    refine S.val hf hs (v := .int .i64 (k1 : Int)) rfl rfl rfl (V.pure rfl) (fun a hf => ?_)
    refine S.storeBox 0 hf hs rfl rfl [.string (ba xk1.Name), .int .i64 xk1.Size, .int .i64 xk1.Life, .int .i64 xk1.Stack] [.string (ba xk1.Name), .int .i64 xk1.Size, .int .i64 xk1.Life, .int .i64 xk1.Stack] rfl rfl rfl rfl rfl Try.sizeOf56 rfl rfl rfl rfl (fun a w hf hs => ?_)
    refine R.nil ?_
    refine X.then_ ?_
    refine wp_seq ?_
    refine R.list ?_
    refine S.val hf hs (v := .pointer (some ⟨g1, 0, none⟩)) rfl rfl rfl (V.fieldBox rfl rfl Try.runUnderlying56 rfl Try.sizeOf9 rfl rfl) (fun a hf => ?_)
    refine S.val hf hs (v := .string (ba xk1.Name)) rfl rfl rfl (V.loadBox 0 rfl rfl rfl Try.isAgg9 Try.sizeOf9 rfl rfl) (fun a hf => ?_)
    refine S.val hf hs (v := .string (ba name)) rfl rfl rfl (V.pure rfl) (fun a hf => ?_)
    refine S.val hf hs (v := .bool (xk1.Name == name)) rfl rfl rfl (V.strCmp (xk1.Name == name) rfl rfl rfl rfl) (fun a hf => ?_)
    refine R.nil ?_
    refine X.then_ ?_
    refine C.cond hf (b := xk1.Name == name) rfl (fun hc => ?_) (fun hc => ?_)
    · replace h := h.1 hc
      refine wp_seq ?_
      refine R.list ?_
      refine S.val hf hs (v := .int .i64 (k1 : Int)) rfl rfl rfl (V.pure rfl) (fun a hf => ?_)
      refine S.val hf hs (v := .int .i64 (k1 : Int)) rfl rfl rfl (V.pure rfl) (fun a hf => ?_)
      refine R.nil ?_
      refine X.then_ ?_
      refine wp_ret ?_
      refine X.blk_ret ?_
      refine X.then_ret ?_
      refine X.then_ret ?_
      refine X.blk_ret ?_
      refine X.then_ret ?_
      exact L.ret hf (run_results1 Try.results79 (ResIs.tmp hf rfl)) ⟨(k1 : Int), rfl, h, hs.nil⟩
    · replace h := h.2 hc
      refine wp_skip ?_
      refine X.blk ?_
      refine X.then_ ?_
      refine R.list ?_
      refine S.val hf hs (v := .int .i64 ((k1 + 1 : Nat) : Int)) rfl rfl rfl (V.incr rfl rfl rfl hltk1 hlenk1) (fun a hf => ?_)
      refine S.val hf hs (v := .int .i64 ((k1 + 1 : Nat) : Int)) rfl rfl rfl (V.pure rfl) (fun a hf => ?_)
      refine R.nil ?_
      refine X.then_ ?_
      exact ⟨xk1, llk1, rfl, k1 + 1, range_drop hlk1, range_len hkk1, (by rw [hnext1] at h; exact h), ((((hf.nil.cons (hf.get 8 _ rfl)).cons (hf.get 7 _ rfl)).cons (hf.get 1 _ rfl)).cons (hf.get 9 _ rfl)), hs.drop⟩

set_option linter.unusedVariables false
def M_ref8_CheckJobs_L2 (Q : Int → Prop) (xk1 : Job) (k2 : Nat) (xk2 : Job)  (next2 : Prop) : Prop :=
  cnd (xk2.Tool == xk1.Tool) (Q 7) (next2)
def M_ref8_CheckJobs_L1 (t : (List Bit)) (j : (List Job)) (Q : Int → Prop) (k1 : Nat) (xk1 : Job) (n2 : Int) (next1 : Int → Prop) : Prop :=
  M_ref8_bitOf t xk1.Tool fun y2 => cnd (decide (y2 < 0)) (Q 9) (must (0 ≤ (0 : Int) ∧ (0 : Int) ≤ (k1 : Int) ∧ (k1 : Int) ≤ (j.length : Int)) (forIn' (fun k x (s : Unit) next => M_ref8_CheckJobs_L2 Q xk1 k x (next ())) (fun (s : Unit) => M_ref8_CheckHoles xk1.Holes fun y3 => cnd (y3 != 0) (Q y3) (next1 (w64 (n2 + (xk1.Holes.length : Int))))) (seg j (0 : Int) (k1 : Int)) 0 ()))
def M_ref8_CheckJobs (t : (List Bit)) (j : (List Job)) (Q : Int → Prop) : Prop :=
  M_ref8_CheckTools t fun y1 => cnd (y1 != 0) (Q y1) (cnd (decide ((j.length : Int) > 100)) (Q 2) (forIn' (fun k x (s : Int) next => M_ref8_CheckJobs_L1 t j Q k x s (fun n2 => next n2)) (fun (s : Int) => (fun (n2 : Int) => cnd (decide (n2 > 2000)) (Q 2) (Q 0)) s) j 0 0))
set_option maxHeartbeats 1000000 in
theorem R_ref8_CheckJobs (t : (List Bit)) (j : (List Job)) (w0 : World) (tA : Option Addr) (tC : Nat) (hv_t : View w0 (old w0 none_) tA tC t) (jA : Option Addr) (jC : Nat) (hv_j : View w0 (old w0 none_) jA jC j) (Q : Int → Prop) (h : M_ref8_CheckJobs t j Q) :
    Ret Try.prog 43 #[.slice tA t.length tC, .slice jA j.length jC] w0 fun v w' => ∃ (r0 : Int), v = .int .i64 r0 ∧ Q r0 ∧ Sat w0 none_ [] w' := by
  refine fn_enter Try.func43 rfl Try.ntmps43 rfl (fs := [(0, .slice tA t.length tC), (1, .slice jA j.length jC)]) rfl (fun a hf => ?_)
  have hs := Sat.start w0 none_
  unfold M_ref8_CheckJobs at h
  refine wp_seq ?_
  refine R.list ?_
  refine S.val hf hs (v := .int .i64 0) rfl rfl rfl (V.pure rfl) (fun a hf => ?_)
  refine R.nil ?_
  refine X.then_ ?_
  refine wp_seq ?_
  refine wp_seq ?_
  refine R.list ?_
  refine S.val hf hs (v := .slice tA t.length tC) rfl rfl rfl (V.pure rfl) (fun a hf => ?_)
  refine S.call hf rfl rfl rfl (call_fn (vs := [.slice tA t.length tC]) rfl rfl rfl Try.call70) (R_ref8_CheckTools t _ tA tC ((Ag.args _ _ _).view hv_t hs) _ h) (fun v a w' hf hr => ?_)
  obtain ⟨y1, rfl, h2, hs2⟩ := hr
  replace h := h2; replace hs := hs.call hs2; clear h2 hs2
  refine S.val hf hs (v := .int .i64 y1) rfl rfl rfl (V.pure rfl) (fun a hf => ?_)
  refine R.nil ?_
  refine X.then_ ?_
  refine wp_seq ?_
  refine R.list ?_
  refine S.val hf hs (v := .int .i64 y1) rfl rfl rfl (V.pure rfl) (fun a hf => ?_)
  refine S.val hf hs (v := .bool (y1 != 0)) rfl rfl rfl (V.pure rfl) (fun a hf => ?_)
  refine R.nil ?_
  refine X.then_ ?_
  refine C.cond hf (b := y1 != 0) rfl (fun hc => ?_) (fun hc => ?_)
  · replace h := h.1 hc
    refine wp_seq ?_
    refine R.list ?_
    refine S.val hf hs (v := .int .i64 y1) rfl rfl rfl (V.pure rfl) (fun a hf => ?_)
    refine S.val hf hs (v := .int .i64 y1) rfl rfl rfl (V.pure rfl) (fun a hf => ?_)
    refine R.nil ?_
    refine X.then_ ?_
    refine wp_ret ?_
    refine X.then_ret ?_
    exact L.ret hf (run_results1 Try.results43 (ResIs.tmp hf rfl)) ⟨y1, rfl, h, hs.nil⟩
  · replace h := h.2 hc
    refine wp_skip ?_
    refine X.then_ ?_
    refine wp_seq ?_
    refine wp_seq ?_
    refine R.list ?_
    refine S.val hf hs (v := .slice jA j.length jC) rfl rfl rfl (V.pure rfl) (fun a hf => ?_)
    refine S.val hf hs (v := .int .i64 (j.length : Int)) rfl rfl rfl (V.len rfl rfl Try.runUnderlying49) (fun a hf => ?_)
    refine S.val hf hs (v := .bool (decide ((j.length : Int) > 100))) rfl rfl rfl (V.pure rfl) (fun a hf => ?_)
    refine R.nil ?_
    refine X.then_ ?_
    refine C.cond hf (b := decide ((j.length : Int) > 100)) rfl (fun hc => ?_) (fun hc => ?_)
    · replace h := h.1 hc
      refine wp_seq ?_
      refine R.list ?_
      refine S.val hf hs (v := .int .i64 2) rfl rfl rfl (V.pure rfl) (fun a hf => ?_)
      refine R.nil ?_
      refine X.then_ ?_
      refine wp_ret ?_
      refine X.then_ret ?_
      exact L.ret hf (run_results1 Try.results43 (ResIs.tmp hf rfl)) ⟨2, rfl, h, hs.nil⟩
    · replace h := h.2 hc
      refine wp_skip ?_
      refine X.then_ ?_
      refine wp_seq ?_
      refine R.list ?_
      refine S.val hf hs (v := .int .i64 0) rfl rfl rfl (V.pure rfl) (fun a hf => ?_)
      refine R.nil ?_
      refine X.then_ ?_
      refine wp_seq ?_
      refine wp_seq ?_
      refine R.list ?_
      refine S.val hf hs (v := .slice jA j.length jC) rfl rfl rfl (V.pure rfl) (fun a hf => ?_)
      refine S.val hf hs (v := .int .i64 (j.length : Int)) rfl rfl rfl (V.len rfl rfl Try.runUnderlying49) (fun a hf => ?_)
      refine S.val hf hs (v := .int .i64 0) rfl rfl rfl (V.pure rfl) (fun a hf => ?_)
      refine R.nil ?_
      refine X.then_ ?_
      refine wp_block ?_
      have hlenk1 := hv_j.len64
      refine C.range (fun (ll : List Job) a w => ∃ (k1 : Nat) (n2 : Int), j.drop k1 = ll ∧ k1 + ll.length = j.length ∧ forIn' (fun k x (s : Int) next => M_ref8_CheckJobs_L1 t j Q k x s (fun n2 => next n2)) (fun (s : Int) => (fun (n2 : Int) => cnd (decide (n2 > 2000)) (Q 2) (Q 0)) s) ll k1 n2 ∧ FrOk 60 [(22, .int .i64 (k1 : Int)), (0, .slice tA t.length tC), (1, .slice jA j.length jC), (6, .int .i64 n2), (20, .slice jA j.length jC), (21, .int .i64 (j.length : Int))] a ∧ Sat w0 none_ [] w) j ⟨0, 0, rfl, Nat.zero_add _, h, ((((((hf.nil.cons (hf.get 21 _ rfl)).cons (hf.get 20 _ rfl)).cons (hf.get 6 _ rfl)).cons (hf.get 1 _ rfl)).cons (hf.get 0 _ rfl)).cons (hf.get 22 _ rfl)), hs⟩ ?_
      clear h hf hs
      rintro llk1 a w ⟨k1, n2, hlk1, hkk1, h, hf, hs⟩
      cases llk1 with
      | nil =>
        have hc := range_done hkk1
        replace h : (fun (n2 : Int) => cnd (decide (n2 > 2000)) (Q 2) (Q 0)) n2 := h
        refine wp_seq ?_
        refine R.list ?_
        refine S.val hf hs (v := .bool false) rfl rfl rfl (V.cmp false rfl rfl rfl rfl hc) (fun a hf => ?_)
        refine R.nil ?_
        refine X.then_ ?_
        refine wp_seq ?_
        refine C.no hf rfl ?_
        refine wp_exit ?_
        refine X.then_exit ?_
        refine X.then_exit ?_
        refine X.blk_exit ?_
        refine X.then_ ?_
        refine wp_seq ?_
        refine wp_seq ?_
        refine R.list ?_
        refine S.val hf hs (v := .int .i64 n2) rfl rfl rfl (V.pure rfl) (fun a hf => ?_)
        refine S.val hf hs (v := .bool (decide (n2 > 2000))) rfl rfl rfl (V.pure rfl) (fun a hf => ?_)
        refine R.nil ?_
        refine X.then_ ?_
        refine C.cond hf (b := decide (n2 > 2000)) rfl (fun hc => ?_) (fun hc => ?_)
        · replace h := h.1 hc
          refine wp_seq ?_
          refine R.list ?_
          refine S.val hf hs (v := .int .i64 2) rfl rfl rfl (V.pure rfl) (fun a hf => ?_)
          refine R.nil ?_
          refine X.then_ ?_
          refine wp_ret ?_
          refine X.then_ret ?_
          exact L.ret hf (run_results1 Try.results43 (ResIs.tmp hf rfl)) ⟨2, rfl, h, hs.nil⟩
        · replace h := h.2 hc
          refine wp_skip ?_
          refine X.then_ ?_
          refine wp_seq ?_
          refine R.list ?_
          refine S.val hf hs (v := .int .i64 0) rfl rfl rfl (V.pure rfl) (fun a hf => ?_)
          refine R.nil ?_
          refine X.then_ ?_
          refine wp_ret ?_
          exact L.ret hf (run_results1 Try.results43 (ResIs.tmp hf rfl)) ⟨0, rfl, h, hs.nil⟩
      | cons xk1 llk1 =>
        have hltk1 := range_lt hkk1; have hc := range_go hkk1; have hxk1 := range_get hlk1
        obtain ⟨next1, hnext1⟩ : ∃ X : Int → Prop, X = (fun n2 => forIn' (fun k x (s : Int) next => M_ref8_CheckJobs_L1 t j Q k x s (fun n2 => next n2)) (fun (s : Int) => (fun (n2 : Int) => cnd (decide (n2 > 2000)) (Q 2) (Q 0)) s) llk1 (k1 + 1) n2) := ⟨_, rfl⟩
        replace h : M_ref8_CheckJobs_L1 t j Q k1 xk1 n2 next1 := by rw [hnext1]; exact h
        unfold M_ref8_CheckJobs_L1 at h
        refine wp_seq ?_
        refine R.list ?_
        refine S.val hf hs (v := .bool true) rfl rfl rfl (V.cmp true rfl rfl rfl rfl hc) (fun a hf => ?_)
        refine R.nil ?_
        refine X.then_ ?_
        refine wp_seq ?_
        refine C.yes hf rfl ?_
        refine wp_skip ?_
        refine X.then_ ?_
        refine wp_seq ?_
        refine wp_block ?_
        refine wp_seq ?_
        refine R.list ?_
        refine S.val hf hs (v := .int .i64 (k1 : Int)) rfl rfl rfl (V.pure rfl) (fun a hf => ?_)
        obtain ⟨cs1, he1, hr1⟩ := hv_j.at_ _ _ hxk1
        obtain ⟨u1A, u1C, rfl, hvu1⟩ := hr1
        refine S.val hf hs (v := elemPtr jA (k1 * 2)) rfl rfl rfl (V.index rfl rfl rfl Try.runUnderlying49 Try.sizeOf54 (hv_j.some_ (lt_of_get hxk1)) (Int.natCast_nonneg _) (lt_of_get hxk1) rfl) (fun a hf => ?_)
        refine S.val hf hs (v := .agg #[.string (ba xk1.Tool), .slice u1A xk1.Holes.length u1C]) rfl rfl rfl (V.loadEl (off := 0) (Ag.args _ _ _) he1 rfl rfl rfl Try.isAgg54 Try.sizeOf54 rfl rfl) (fun a hf => ?_)
        refine S.alloc hf hs rfl rfl rfl [.string (ba []), .slice none 0 0] rfl Try.zeroValue54 rfl (fun g1 a w hf hs => ?_)
        refine S.val hf hs (v := .int .i64 (k1 : Int)) rfl rfl rfl (V.pure rfl) (fun a hf => ?_)
        refine S.storeBox 0 hf hs rfl rfl [.string (ba xk1.Tool), .slice u1A xk1.Holes.length u1C] [.string (ba xk1.Tool), .slice u1A xk1.Holes.length u1C] rfl rfl rfl rfl rfl Try.sizeOf54 rfl rfl rfl rfl (fun a w hf hs => ?_)
        refine R.nil ?_
        refine X.then_ ?_
        refine wp_seq ?_
        refine wp_seq ?_
        refine R.list ?_
        refine S.val hf hs (v := .slice tA t.length tC) rfl rfl rfl (V.pure rfl) (fun a hf => ?_)
        refine S.val hf hs (v := .pointer (some ⟨g1, 0, none⟩)) rfl rfl rfl (V.fieldBox rfl rfl Try.runUnderlying54 rfl Try.sizeOf9 rfl rfl) (fun a hf => ?_)
        refine S.val hf hs (v := .string (ba xk1.Tool)) rfl rfl rfl (V.loadBox 0 rfl rfl rfl Try.isAgg9 Try.sizeOf9 rfl rfl) (fun a hf => ?_)
        refine S.call hf rfl rfl rfl (call_fn (vs := [.slice tA t.length tC, .string (ba xk1.Tool)]) rfl rfl rfl Try.call79) (R_ref8_bitOf t xk1.Tool _ tA tC ((Ag.args _ _ _).view hv_t hs) _ h) (fun v a w' hf hr => ?_)
        obtain ⟨y2, rfl, h2, hs2⟩ := hr
        replace h := h2; replace hs := hs.call hs2; clear h2 hs2
        refine S.val hf hs (v := .bool (decide (y2 < 0))) rfl rfl rfl (V.pure rfl) (fun a hf => ?_)
        refine R.nil ?_
        refine X.then_ ?_
        refine C.cond hf (b := decide (y2 < 0)) rfl (fun hc => ?_) (fun hc => ?_)
        · replace h := h.1 hc
          refine wp_seq ?_
          refine R.list ?_
          refine S.val hf hs (v := .int .i64 9) rfl rfl rfl (V.pure rfl) (fun a hf => ?_)
          refine R.nil ?_
          refine X.then_ ?_
          refine wp_ret ?_
          refine X.then_ret ?_
          refine X.blk_ret ?_
          refine X.then_ret ?_
          refine X.then_ret ?_
          refine X.blk_ret ?_
          refine X.then_ret ?_
          exact L.ret hf (run_results1 Try.results43 (ResIs.tmp hf rfl)) ⟨9, rfl, h, hs.nil⟩
        · replace h := h.2 hc
          refine wp_skip ?_
          refine X.then_ ?_
          refine wp_seq ?_
          refine wp_seq ?_
          refine R.list ?_
          refine S.val hf hs (v := .slice jA j.length jC) rfl rfl rfl (V.pure rfl) (fun a hf => ?_)
          refine S.val hf hs (v := .int .i64 (k1 : Int)) rfl rfl rfl (V.pure rfl) (fun a hf => ?_)
          obtain ⟨hp1, h⟩ := h
          refine S.val hf hs (v := .slice (segA jA jC ((0 : Int) : Int).toNat 2) (seg j (0 : Int) (k1 : Int)).length (jC - ((0 : Int) : Int).toNat)) rfl rfl rfl (V.slice rfl rfl rfl rfl Try.runUnderlying49 Try.sizeOf54 rfl rfl hp1 hv_j.cap (seg_length (by have := hp1.2.2; omega))) (fun a hf => ?_)
          refine S.val hf hs (v := .int .i64 ((seg j (0 : Int) (k1 : Int)).length : Int)) rfl rfl rfl (V.len rfl rfl Try.runUnderlying49) (fun a hf => ?_)
          refine S.val hf hs (v := .int .i64 0) rfl rfl rfl (V.pure rfl) (fun a hf => ?_)
          refine R.nil ?_
          refine X.then_ ?_
          refine wp_block ?_
          have hlenk2 := (View.sub hv_j hp1).len64
          refine C.range (fun (ll : List Job) a w => ∃ (k2 : Nat) , (seg j (0 : Int) (k1 : Int)).drop k2 = ll ∧ k2 + ll.length = (seg j (0 : Int) (k1 : Int)).length ∧ forIn' (fun k x (s : Unit) next => M_ref8_CheckJobs_L2 Q xk1 k x (next ())) (fun (s : Unit) => M_ref8_CheckHoles xk1.Holes fun y3 => cnd (y3 != 0) (Q y3) (next1 (w64 (n2 + (xk1.Holes.length : Int))))) ll k2 () ∧ FrOk 60 [(36, .int .i64 (k2 : Int)), (0, .slice tA t.length tC), (1, .slice jA j.length jC), (6, .int .i64 n2), (8, .pointer (some ⟨g1, 0, none⟩)), (20, .slice jA j.length jC), (21, .int .i64 (j.length : Int)), (22, .int .i64 (k1 : Int)), (34, .slice (segA jA jC ((0 : Int) : Int).toNat 2) (seg j (0 : Int) (k1 : Int)).length (jC - ((0 : Int) : Int).toNat)), (35, .int .i64 ((seg j (0 : Int) (k1 : Int)).length : Int))] a ∧ Sat w0 none_ [hbox g1 54 [.string (ba xk1.Tool), .slice u1A xk1.Holes.length u1C]] w) (seg j (0 : Int) (k1 : Int)) ⟨0, rfl, Nat.zero_add _, h, ((((((((((hf.nil.cons (hf.get 35 _ rfl)).cons (hf.get 34 _ rfl)).cons (hf.get 22 _ rfl)).cons (hf.get 21 _ rfl)).cons (hf.get 20 _ rfl)).cons (hf.get 8 _ rfl)).cons (hf.get 6 _ rfl)).cons (hf.get 1 _ rfl)).cons (hf.get 0 _ rfl)).cons (hf.get 36 _ rfl)), hs⟩ ?_
          clear h hf hs
          rintro llk2 a w ⟨k2, hlk2, hkk2, h, hf, hs⟩
          cases llk2 with
          | nil =>
            have hc := range_done hkk2
            replace h : M_ref8_CheckHoles xk1.Holes fun y3 => cnd (y3 != 0) (Q y3) (next1 (w64 (n2 + (xk1.Holes.length : Int)))) := h
            refine wp_seq ?_
            refine R.list ?_
            refine S.val hf hs (v := .bool false) rfl rfl rfl (V.cmp false rfl rfl rfl rfl hc) (fun a hf => ?_)
            refine R.nil ?_
            refine X.then_ ?_
            refine wp_seq ?_
            refine C.no hf rfl ?_
            refine wp_exit ?_
            refine X.then_exit ?_
            refine X.then_exit ?_
            refine X.blk_exit ?_
            refine X.then_ ?_
            refine wp_seq ?_
            refine wp_seq ?_
            refine R.list ?_
            refine S.val hf hs (v := .pointer (some ⟨g1, 1, none⟩)) rfl rfl rfl (V.fieldBox rfl rfl Try.runUnderlying54 rfl Try.sizeOf34 rfl rfl) (fun a hf => ?_)
            refine S.val hf hs (v := .slice u1A xk1.Holes.length u1C) rfl rfl rfl (V.loadBox 0 rfl rfl rfl Try.isAgg34 Try.sizeOf34 rfl rfl) (fun a hf => ?_)
            refine S.call hf rfl rfl rfl (call_fn (vs := [.slice u1A xk1.Holes.length u1C]) rfl rfl rfl Try.call58) (R_ref8_CheckHoles xk1.Holes _ u1A u1C ((Ag.args _ _ _).view hvu1 hs) _ h) (fun v a w' hf hr => ?_)
            obtain ⟨y3, rfl, h2, hs2⟩ := hr
            replace h := h2; replace hs := hs.call hs2; clear h2 hs2
            refine S.val hf hs (v := .int .i64 y3) rfl rfl rfl (V.pure rfl) (fun a hf => ?_)
            refine R.nil ?_
            refine X.then_ ?_
            refine wp_seq ?_
            refine R.list ?_
            refine S.val hf hs (v := .int .i64 y3) rfl rfl rfl (V.pure rfl) (fun a hf => ?_)
            refine S.val hf hs (v := .bool (y3 != 0)) rfl rfl rfl (V.pure rfl) (fun a hf => ?_)
            refine R.nil ?_
            refine X.then_ ?_
            refine C.cond hf (b := y3 != 0) rfl (fun hc => ?_) (fun hc => ?_)
            · replace h := h.1 hc
              refine wp_seq ?_
              refine R.list ?_
              refine S.val hf hs (v := .int .i64 y3) rfl rfl rfl (V.pure rfl) (fun a hf => ?_)
              refine S.val hf hs (v := .int .i64 y3) rfl rfl rfl (V.pure rfl) (fun a hf => ?_)
              refine R.nil ?_
              refine X.then_ ?_
              refine wp_ret ?_
              refine X.then_ret ?_
              refine X.blk_ret ?_
              refine X.then_ret ?_
              refine X.then_ret ?_
              refine X.blk_ret ?_
              refine X.then_ret ?_
              exact L.ret hf (run_results1 Try.results43 (ResIs.tmp hf rfl)) ⟨y3, rfl, h, hs.nil⟩
            · replace h := h.2 hc
              refine wp_skip ?_
              refine X.then_ ?_
              refine R.list ?_
              refine S.val hf hs (v := .int .i64 n2) rfl rfl rfl (V.pure rfl) (fun a hf => ?_)
              refine S.val hf hs (v := .pointer (some ⟨g1, 1, none⟩)) rfl rfl rfl (V.fieldBox rfl rfl Try.runUnderlying54 rfl Try.sizeOf34 rfl rfl) (fun a hf => ?_)
              refine S.val hf hs (v := .slice u1A xk1.Holes.length u1C) rfl rfl rfl (V.loadBox 0 rfl rfl rfl Try.isAgg34 Try.sizeOf34 rfl rfl) (fun a hf => ?_)
              refine S.val hf hs (v := .int .i64 (xk1.Holes.length : Int)) rfl rfl rfl (V.len rfl rfl Try.runUnderlying34) (fun a hf => ?_)
              refine S.val hf hs (v := .int .i64 (w64 (n2 + (xk1.Holes.length : Int)))) rfl rfl rfl (V.pure rfl) (fun a hf => ?_)
              refine S.val hf hs (v := .int .i64 (w64 (n2 + (xk1.Holes.length : Int)))) rfl rfl rfl (V.pure rfl) (fun a hf => ?_)
              refine R.nil ?_
              refine X.blk ?_
              refine X.then_ ?_
              refine R.list ?_
              refine S.val hf hs (v := .int .i64 ((k1 + 1 : Nat) : Int)) rfl rfl rfl (V.incr rfl rfl rfl hltk1 hlenk1) (fun a hf => ?_)
              refine S.val hf hs (v := .int .i64 ((k1 + 1 : Nat) : Int)) rfl rfl rfl (V.pure rfl) (fun a hf => ?_)
              refine R.nil ?_
              refine X.then_ ?_
              exact ⟨xk1, llk1, rfl, k1 + 1, (w64 (n2 + (xk1.Holes.length : Int))), range_drop hlk1, range_len hkk1, (by rw [hnext1] at h; exact h), ((((((hf.nil.cons (hf.get 21 _ rfl)).cons (hf.get 20 _ rfl)).cons (hf.get 6 _ rfl)).cons (hf.get 1 _ rfl)).cons (hf.get 0 _ rfl)).cons (hf.get 22 _ rfl)), hs.drop⟩
          | cons xk2 llk2 =>
            have hltk2 := range_lt hkk2; have hc := range_go hkk2; have hxk2 := range_get hlk2
            obtain ⟨next2, hnext2⟩ : ∃ X : Prop, X = (forIn' (fun k x (s : Unit) next => M_ref8_CheckJobs_L2 Q xk1 k x (next ())) (fun (s : Unit) => M_ref8_CheckHoles xk1.Holes fun y3 => cnd (y3 != 0) (Q y3) (next1 (w64 (n2 + (xk1.Holes.length : Int))))) llk2 (k2 + 1) ()) := ⟨_, rfl⟩
            replace h : M_ref8_CheckJobs_L2 Q xk1 k2 xk2  next2 := by rw [hnext2]; exact h
            unfold M_ref8_CheckJobs_L2 at h
            refine wp_seq ?_
            refine R.list ?_
            refine S.val hf hs (v := .bool true) rfl rfl rfl (V.cmp true rfl rfl rfl rfl hc) (fun a hf => ?_)
            refine R.nil ?_
            refine X.then_ ?_
            refine wp_seq ?_
            refine C.yes hf rfl ?_
            refine wp_skip ?_
            refine X.then_ ?_
            refine wp_seq ?_
            refine wp_block ?_
            refine wp_seq ?_
            refine R.list ?_
            obtain ⟨cs2, he2, hr2⟩ := (View.sub hv_j hp1).at_ _ _ hxk2
            obtain ⟨u2A, u2C, rfl, hvu2⟩ := hr2
            refine S.val hf hs (v := elemPtr (segA jA jC ((0 : Int) : Int).toNat 2) (k2 * 2)) rfl rfl rfl (V.index rfl rfl rfl Try.runUnderlying49 Try.sizeOf54 ((View.sub hv_j hp1).some_ (lt_of_get hxk2)) (Int.natCast_nonneg _) (lt_of_get hxk2) rfl) (fun a hf => ?_)
            refine S.val hf hs (v := .agg #[.string (ba xk2.Tool), .slice u2A xk2.Holes.length u2C]) rfl rfl rfl (V.loadEl (off := 0) (Ag.args _ _ _) he2 rfl rfl rfl Try.isAgg54 Try.sizeOf54 rfl rfl) (fun a hf => ?_)
            refine S.alloc hf hs rfl rfl rfl [.string (ba []), .slice none 0 0] rfl Try.zeroValue54 rfl (fun g2 a w hf hs => ?_)
            refine S.storeBox 0 hf hs rfl rfl [.string (ba xk2.Tool), .slice u2A xk2.Holes.length u2C] [.string (ba xk2.Tool), .slice u2A xk2.Holes.length u2C] rfl rfl rfl rfl rfl Try.sizeOf54 rfl rfl rfl rfl (fun a w hf hs => ?_)
            refine R.nil ?_
            refine X.then_ ?_
            refine wp_seq ?_
            refine R.list ?_
            refine S.val hf hs (v := .pointer (some ⟨g2, 0, none⟩)) rfl rfl rfl (V.fieldBox rfl rfl Try.runUnderlying54 rfl Try.sizeOf9 rfl rfl) (fun a hf => ?_)
            refine S.val hf hs (v := .string (ba xk2.Tool)) rfl rfl rfl (V.loadBox 0 rfl rfl rfl Try.isAgg9 Try.sizeOf9 rfl rfl) (fun a hf => ?_)
            refine S.val hf hs (v := .pointer (some ⟨g1, 0, none⟩)) rfl rfl rfl (V.fieldBox rfl rfl Try.runUnderlying54 rfl Try.sizeOf9 rfl rfl) (fun a hf => ?_)
            refine S.val hf hs (v := .string (ba xk1.Tool)) rfl rfl rfl (V.loadBox 1 rfl rfl rfl Try.isAgg9 Try.sizeOf9 rfl rfl) (fun a hf => ?_)
            refine S.val hf hs (v := .bool (xk2.Tool == xk1.Tool)) rfl rfl rfl (V.strCmp (xk2.Tool == xk1.Tool) rfl rfl rfl rfl) (fun a hf => ?_)
            refine R.nil ?_
            refine X.then_ ?_
            refine C.cond hf (b := xk2.Tool == xk1.Tool) rfl (fun hc => ?_) (fun hc => ?_)
            · replace h := h.1 hc
              refine wp_seq ?_
              refine R.list ?_
              refine S.val hf hs (v := .int .i64 7) rfl rfl rfl (V.pure rfl) (fun a hf => ?_)
              refine R.nil ?_
              refine X.then_ ?_
              refine wp_ret ?_
              refine X.blk_ret ?_
              refine X.then_ret ?_
              refine X.then_ret ?_
              refine X.blk_ret ?_
              refine X.then_ret ?_
              refine X.blk_ret ?_
              refine X.then_ret ?_
              refine X.then_ret ?_
              refine X.blk_ret ?_
              refine X.then_ret ?_
              exact L.ret hf (run_results1 Try.results43 (ResIs.tmp hf rfl)) ⟨7, rfl, h, hs.nil⟩
            · replace h := h.2 hc
              refine wp_skip ?_
              refine X.blk ?_
              refine X.then_ ?_
              refine R.list ?_
              refine S.val hf hs (v := .int .i64 ((k2 + 1 : Nat) : Int)) rfl rfl rfl (V.incr rfl rfl rfl hltk2 hlenk2) (fun a hf => ?_)
              refine S.val hf hs (v := .int .i64 ((k2 + 1 : Nat) : Int)) rfl rfl rfl (V.pure rfl) (fun a hf => ?_)
              refine R.nil ?_
              refine X.then_ ?_
              exact ⟨xk2, llk2, rfl, k2 + 1, range_drop hlk2, range_len hkk2, (by rw [hnext2] at h; exact h), ((((((((((hf.nil.cons (hf.get 35 _ rfl)).cons (hf.get 34 _ rfl)).cons (hf.get 22 _ rfl)).cons (hf.get 21 _ rfl)).cons (hf.get 20 _ rfl)).cons (hf.get 8 _ rfl)).cons (hf.get 6 _ rfl)).cons (hf.get 1 _ rfl)).cons (hf.get 0 _ rfl)).cons (hf.get 36 _ rfl)), hs.drop⟩

end Go.Proofs.Ytmopdabkfklefaa

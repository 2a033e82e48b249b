/- Chapter 10: the best order: the walks. -/
import Derived.Test.YtcmlcgjjkccaeaaMountC
namespace Go.Proofs.Ytcmlcgjjkccaeaa
open Go Go.RowKit
set_option linter.unusedVariables false

set_option linter.unusedVariables false
def M_lite_IndexByte (s_ : Str) (c : Int) (Q : Int → Prop) : Prop :=
  Q (byteAt s_ c)
set_option maxHeartbeats 1000000 in
theorem R_lite_IndexByte (s_ : Str) (c : Int) (w0 : World)  (Q : Int → Prop) (h : M_lite_IndexByte s_ c Q) :
    Ret Try.prog 41 #[.string (ba s_), .int .u8 c] w0 fun v w' => ∃ (r0 : Int), v = .int .i64 r0 ∧ Q r0 ∧ Sat w0 none_ [] w' := by
  refine fn_enter Try.func41 rfl Try.ntmps41 rfl (fs := [(0, .string (ba s_)), (1, .int .u8 c)]) rfl (fun a hf => ?_)
  have hs := Sat.start w0 none_
  unfold M_lite_IndexByte at h
  refine wp_seq ?_
  refine R.list ?_
  refine S.val hf hs (v := .int .i64 0) rfl rfl rfl (V.pure rfl) (fun a hf => ?_)
  refine R.nil ?_
  refine X.then_ ?_
  refine wp_seq ?_
  refine R.list ?_
  refine S.val hf hs (v := .string (ba s_)) rfl rfl rfl (V.pure rfl) (fun a hf => ?_)
  refine S.val hf hs (v := .int .u8 c) rfl rfl rfl (V.pure rfl) (fun a hf => ?_)
  refine S.val hf hs (v := .int .i64 (byteAt s_ c)) rfl rfl rfl (V.extern Try.func43 (by kernel_rfl) (by kernel_rfl) (by kernel_rfl) (by kernel_rfl) rfl rfl rfl (run_byteAt _ _)) (fun a hf => ?_)
  refine S.val hf hs (v := .int .i64 (byteAt s_ c)) rfl rfl rfl (V.pure rfl) (fun a hf => ?_)
  refine R.nil ?_
  refine X.then_ ?_
  refine wp_ret ?_
  exact L.ret hf (run_results1 Try.results41 (ResIs.tmp hf rfl)) ⟨(byteAt s_ c), rfl, h, hs.nil⟩

theorem E_lite_IndexByte (s : Str) (c : Int) : M_lite_IndexByte s c (· = byteAt s c) := rfl
theorem C_lite_IndexByte (s_ : Str) (c : Int) (w0 : World)  : Ret Try.prog 41 #[.string (ba s_), .int .u8 c] w0 fun v w' => v = .int .i64 (byteAt s_ c) ∧ Sat w0 none_ [] w' :=
  (R_lite_IndexByte s_ c w0  (· = (byteAt s_ c)) (E_lite_IndexByte s_ c)).mono fun v w' ⟨r0, hv, hr, hs⟩ => ⟨by subst hr; exact hv, hs⟩

set_option linter.unusedVariables false
def M_strings_IndexByte (s_ : Str) (c : Int) (Q : Int → Prop) : Prop :=
  Q (byteAt s_ c)
set_option maxHeartbeats 1000000 in
theorem R_strings_IndexByte (s_ : Str) (c : Int) (w0 : World)  (Q : Int → Prop) (h : M_strings_IndexByte s_ c Q) :
    Ret Try.prog 39 #[.string (ba s_), .int .u8 c] w0 fun v w' => ∃ (r0 : Int), v = .int .i64 r0 ∧ Q r0 ∧ Sat w0 none_ [] w' := by
  refine fn_enter Try.func39 rfl Try.ntmps39 rfl (fs := [(0, .string (ba s_)), (1, .int .u8 c)]) rfl (fun a hf => ?_)
  have hs := Sat.start w0 none_
  unfold M_strings_IndexByte at h
  refine wp_seq ?_
  refine R.list ?_
  refine S.val hf hs (v := .int .i64 0) rfl rfl rfl (V.pure rfl) (fun a hf => ?_)
  refine R.nil ?_
  refine X.then_ ?_
  refine wp_seq ?_
  refine R.list ?_
  refine S.val hf hs (v := .string (ba s_)) rfl rfl rfl (V.pure rfl) (fun a hf => ?_)
  refine S.val hf hs (v := .int .u8 c) rfl rfl rfl (V.pure rfl) (fun a hf => ?_)
  refine S.callv hf rfl rfl rfl (call_fn (vs := [.string (ba s_), .int .u8 c]) rfl rfl rfl Try.call41) (C_lite_IndexByte s_ c _ ) (fun a w hf hs' => ?_)
  replace hs := hs.call hs'; clear hs'
  refine S.val hf hs (v := .int .i64 (byteAt s_ c)) rfl rfl rfl (V.pure rfl) (fun a hf => ?_)
  refine R.nil ?_
  refine X.then_ ?_
  refine wp_ret ?_
  exact L.ret hf (run_results1 Try.results39 (ResIs.tmp hf rfl)) ⟨(byteAt s_ c), rfl, h, hs.nil⟩

theorem E_strings_IndexByte (s : Str) (c : Int) : M_strings_IndexByte s c (· = byteAt s c) := rfl
theorem C_strings_IndexByte (s_ : Str) (c : Int) (w0 : World)  : Ret Try.prog 39 #[.string (ba s_), .int .u8 c] w0 fun v w' => v = .int .i64 (byteAt s_ c) ∧ Sat w0 none_ [] w' :=
  (R_strings_IndexByte s_ c w0  (· = (byteAt s_ c)) (E_strings_IndexByte s_ c)).mono fun v w' ⟨r0, hv, hr, hs⟩ => ⟨by subst hr; exact hv, hs⟩

set_option linter.unusedVariables false
def M_netlist_IsWord_k2 (Q : Bool → Prop) (n2 : Int) (again1 : Int → Prop) (c1 : Bool) : Prop :=
  cnd c1 (Q false) (again1 (w64 (n2 + 1)))
def M_netlist_IsWord_L1 (s_ : Str) (Q : Bool → Prop) (again1 : Int → Prop) (n2 : Int) : Prop :=
  cnd (decide (n2 < (s_.length : Int))) (idx s_ n2 fun x1 => cnd (decide ((x1.toNat : Int) < 65)) (cnd (decide ((x1.toNat : Int) < 97)) (cnd (decide ((x1.toNat : Int) < 48)) (M_netlist_IsWord_k2 Q n2 again1 (decide ((byteAt [95, 43, 45, 35] (x1.toNat : Int)) < 0))) (cnd (decide ((x1.toNat : Int) > 57)) (M_netlist_IsWord_k2 Q n2 again1 (decide ((byteAt [95, 43, 45, 35] (x1.toNat : Int)) < 0))) (M_netlist_IsWord_k2 Q n2 again1 false))) (cnd (decide ((x1.toNat : Int) > 122)) (cnd (decide ((x1.toNat : Int) < 48)) (M_netlist_IsWord_k2 Q n2 again1 (decide ((byteAt [95, 43, 45, 35] (x1.toNat : Int)) < 0))) (cnd (decide ((x1.toNat : Int) > 57)) (M_netlist_IsWord_k2 Q n2 again1 (decide ((byteAt [95, 43, 45, 35] (x1.toNat : Int)) < 0))) (M_netlist_IsWord_k2 Q n2 again1 false))) (M_netlist_IsWord_k2 Q n2 again1 false))) (cnd (decide ((x1.toNat : Int) > 90)) (cnd (decide ((x1.toNat : Int) < 97)) (cnd (decide ((x1.toNat : Int) < 48)) (M_netlist_IsWord_k2 Q n2 again1 (decide ((byteAt [95, 43, 45, 35] (x1.toNat : Int)) < 0))) (cnd (decide ((x1.toNat : Int) > 57)) (M_netlist_IsWord_k2 Q n2 again1 (decide ((byteAt [95, 43, 45, 35] (x1.toNat : Int)) < 0))) (M_netlist_IsWord_k2 Q n2 again1 false))) (cnd (decide ((x1.toNat : Int) > 122)) (cnd (decide ((x1.toNat : Int) < 48)) (M_netlist_IsWord_k2 Q n2 again1 (decide ((byteAt [95, 43, 45, 35] (x1.toNat : Int)) < 0))) (cnd (decide ((x1.toNat : Int) > 57)) (M_netlist_IsWord_k2 Q n2 again1 (decide ((byteAt [95, 43, 45, 35] (x1.toNat : Int)) < 0))) (M_netlist_IsWord_k2 Q n2 again1 false))) (M_netlist_IsWord_k2 Q n2 again1 false))) (M_netlist_IsWord_k2 Q n2 again1 false))) (cnd (decide ((s_.length : Int) ≥ 1)) (Q (decide ((s_.length : Int) ≤ 40))) (Q false))
def M_netlist_IsWord (s_ : Str) (Q : Bool → Prop) : Prop :=
  lp (fun again (s : Int) => M_netlist_IsWord_L1 s_ Q (fun n2 => again n2) s) 0
set_option maxHeartbeats 1000000 in
theorem R_netlist_IsWord (s_ : Str) (w0 : World)  (Q : Bool → Prop) (h : M_netlist_IsWord s_ Q) :
    Ret Try.prog 35 #[.string (ba s_)] w0 fun v w' => ∃ (r0 : Bool), v = .bool r0 ∧ Q r0 ∧ Sat w0 none_ [] w' := by
  refine fn_enter Try.func35 rfl Try.ntmps35 rfl (fs := [(0, .string (ba s_))]) rfl (fun a hf => ?_)
  have hs := Sat.start w0 none_
  unfold M_netlist_IsWord at h
  refine wp_seq ?_
  refine R.list ?_
  refine S.val hf hs (v := .bool false) rfl rfl rfl (V.pure rfl) (fun a hf => ?_)
  refine R.nil ?_
  refine X.then_ ?_
  refine wp_seq ?_
  refine wp_seq ?_
  refine R.list ?_
  refine S.val hf hs (v := .string (ba s_)) rfl rfl rfl (V.pure rfl) (fun a hf => ?_)
  refine S.val hf hs (v := .int .i64 (s_.length : Int)) rfl rfl rfl (V.lenStr rfl rfl Try.runUnderlying9) (fun a hf => ?_)
  refine S.val hf hs (v := .int .i64 0) rfl rfl rfl (V.pure rfl) (fun a hf => ?_)
  refine R.nil ?_
  refine X.then_ ?_
  refine wp_block ?_
  obtain ⟨kk, h⟩ := h
  refine C.loop (fun kk a w => ∃ (n2 : Int), iterF (fun again (s : Int) => M_netlist_IsWord_L1 s_ Q (fun n2 => again n2) s) kk n2 ∧ FrOk 49 [(0, .string (ba s_)), (6, .int .i64 (s_.length : Int)), (7, .int .i64 n2)] a ∧ Sat w0 none_ [] w) kk ⟨0, h, (((hf.nil.cons (hf.get 7 _ rfl)).cons (hf.get 6 _ rfl)).cons (hf.get 0 _ rfl)), hs⟩ (fun a w ⟨_, h, _, _⟩ => h) ?_
  clear h hf hs
  rintro kk a w ⟨n2, h, hf, hs⟩
  obtain ⟨again1, hagain1⟩ : ∃ X : Int → Prop, X = (fun n2 => iterF (fun again (s : Int) => M_netlist_IsWord_L1 s_ Q (fun n2 => again n2) s) kk n2) := ⟨_, rfl⟩
  replace h : M_netlist_IsWord_L1 s_ Q again1 n2 := by rw [hagain1]; exact h
  unfold M_netlist_IsWord_L1 at h
  refine wp_seq ?_
  refine R.list ?_
  refine S.val hf hs (v := .bool (decide (n2 < (s_.length : Int)))) rfl rfl rfl (V.pure rfl) (fun a hf => ?_)
  refine R.nil ?_
  refine X.then_ ?_
  refine wp_seq ?_
  refine C.cond hf (b := decide (n2 < (s_.length : Int))) rfl (fun hc => ?_) (fun hc => ?_)
  · replace h := h.1 hc
    refine wp_skip ?_
    refine X.then_ ?_
    refine wp_seq ?_
    refine wp_block ?_
    refine wp_seq ?_
    refine R.list ?_
    refine S.val hf hs (v := .int .i64 n2) rfl rfl rfl (V.pure rfl) (fun a hf => ?_)
    refine S.val hf hs (v := .int .i64 n2) rfl rfl rfl (V.pure rfl) (fun a hf => ?_)
    refine R.nil ?_
    refine X.then_ ?_
    refine wp_seq ?_
    refine R.list ?_
    refine S.val hf hs (v := .string (ba s_)) rfl rfl rfl (V.pure rfl) (fun a hf => ?_)
    refine S.val hf hs (v := .int .i64 n2) rfl rfl rfl (V.pure rfl) (fun a hf => ?_)
    obtain ⟨h0x1, x1, hx1, h⟩ := h
    refine S.val hf hs (v := .int .u8 (x1.toNat : Int)) rfl rfl rfl (V.indexStr rfl rfl rfl Try.runUnderlying9 h0x1 hx1) (fun a hf => ?_)
    refine S.val hf hs (v := .int .u8 (x1.toNat : Int)) rfl rfl rfl (V.pure rfl) (fun a hf => ?_)
    refine R.nil ?_
    refine X.then_ ?_
    refine wp_seq ?_
    refine C.cut (J := fun a w => ∃ (c1 : Bool), M_netlist_IsWord_k2 Q n2 again1 c1 ∧ FrOk 49 [(0, .string (ba s_)), (6, .int .i64 (s_.length : Int)), (7, .int .i64 n2), (39, .bool c1)] a ∧ Sat w0 none_ [] w) ?_ ?_
    · rintro a w ⟨c1, h, hf, hs⟩
      unfold M_netlist_IsWord_k2 at h
      refine C.cond hf (b := c1) rfl (fun hc => ?_) (fun hc => ?_)
      · replace h := h.1 hc
        refine wp_seq ?_
        refine R.list ?_
        refine S.val hf hs (v := .bool false) rfl rfl rfl (V.pure rfl) (fun a hf => ?_)
        refine R.nil ?_
        refine X.then_ ?_
        refine wp_ret ?_
        refine X.blk_ret ?_
        refine X.then_ret ?_
        refine X.then_ret ?_
        refine X.blk_ret ?_
        refine X.then_ret ?_
        exact L.ret hf (run_results1 Try.results35 (ResIs.tmp hf rfl)) ⟨false, rfl, h, hs.nil⟩
      · replace h := h.2 hc
        refine wp_skip ?_
        refine X.blk ?_
        refine X.then_ ?_
        refine R.list ?_
        refine S.val hf hs (v := .int .i64 (w64 (n2 + 1))) rfl rfl rfl (V.pure rfl) (fun a hf => ?_)
        refine S.val hf hs (v := .int .i64 (w64 (n2 + 1))) rfl rfl rfl (V.pure rfl) (fun a hf => ?_)
        refine R.nil ?_
        refine X.then_ ?_
        exact ⟨(w64 (n2 + 1)), (by rw [hagain1] at h; exact h), (((hf.nil.cons (hf.get 7 _ rfl)).cons (hf.get 6 _ rfl)).cons (hf.get 0 _ rfl)), hs⟩
    · skip
      refine R.list ?_
      refine S.val hf hs (v := .int .u8 (x1.toNat : Int)) rfl rfl rfl (V.pure rfl) (fun a hf => ?_)
      refine S.val hf hs (v := .bool (decide ((x1.toNat : Int) < 65))) rfl rfl rfl (V.pure rfl) (fun a hf => ?_)
      refine S.split hf hs (b := decide ((x1.toNat : Int) < 65)) rfl rfl rfl (V.pure rfl) (fun hc a hf => ?_) (fun hc a hf => ?_)
      · replace h := h.1 hc
        refine S.skip hf rfl rfl rfl (fun a hf => ?_)
        refine S.skip hf rfl rfl rfl (fun a hf => ?_)
        refine S.val hf hs (v := .bool true) rfl rfl rfl (V.pure rfl) (fun a hf => ?_)
        refine S.val hf hs (v := .bool true) rfl rfl rfl (V.pure rfl) (fun a hf => ?_)
        refine S.val hf hs (v := .int .u8 (x1.toNat : Int)) rfl rfl rfl (V.pure rfl) (fun a hf => ?_)
        refine S.val hf hs (v := .bool (decide ((x1.toNat : Int) < 97))) rfl rfl rfl (V.pure rfl) (fun a hf => ?_)
        refine S.split hf hs (b := decide ((x1.toNat : Int) < 97)) rfl rfl rfl (V.pure rfl) (fun hc a hf => ?_) (fun hc a hf => ?_)
        · replace h := h.1 hc
          refine S.skip hf rfl rfl rfl (fun a hf => ?_)
          refine S.skip hf rfl rfl rfl (fun a hf => ?_)
          refine S.val hf hs (v := .bool true) rfl rfl rfl (V.pure rfl) (fun a hf => ?_)
          refine S.val hf hs (v := .bool true) rfl rfl rfl (V.pure rfl) (fun a hf => ?_)
          refine S.val hf hs (v := .bool true) rfl rfl rfl (V.pure rfl) (fun a hf => ?_)
          refine S.val hf hs (v := .int .u8 (x1.toNat : Int)) rfl rfl rfl (V.pure rfl) (fun a hf => ?_)
          refine S.val hf hs (v := .bool (decide ((x1.toNat : Int) < 48))) rfl rfl rfl (V.pure rfl) (fun a hf => ?_)
          refine S.split hf hs (b := decide ((x1.toNat : Int) < 48)) rfl rfl rfl (V.pure rfl) (fun hc a hf => ?_) (fun hc a hf => ?_)
          · replace h := h.1 hc
            refine S.skip hf rfl rfl rfl (fun a hf => ?_)
            refine S.skip hf rfl rfl rfl (fun a hf => ?_)
            refine S.val hf hs (v := .bool true) rfl rfl rfl (V.pure rfl) (fun a hf => ?_)
            refine S.val hf hs (v := .bool true) rfl rfl rfl (V.pure rfl) (fun a hf => ?_)
            refine S.val hf hs (v := .bool true) rfl rfl rfl (V.pure rfl) (fun a hf => ?_)
            refine S.val hf hs (v := .int .u8 (x1.toNat : Int)) rfl rfl rfl (V.pure rfl) (fun a hf => ?_)
            refine S.callv hf rfl rfl rfl (call_fn (vs := [.string (ba [95, 43, 45, 35]), .int .u8 (x1.toNat : Int)]) rfl rfl rfl Try.call39) (C_strings_IndexByte [95, 43, 45, 35] (x1.toNat : Int) _ ) (fun a w hf hs' => ?_)
            replace hs := hs.call hs'; clear hs'
            refine S.val hf hs (v := .bool (decide ((byteAt [95, 43, 45, 35] (x1.toNat : Int)) < 0))) rfl rfl rfl (V.pure rfl) (fun a hf => ?_)
            refine S.val hf hs (v := .bool (decide ((byteAt [95, 43, 45, 35] (x1.toNat : Int)) < 0))) rfl rfl rfl (V.pure rfl) (fun a hf => ?_)
            refine R.nil ?_
            refine X.then_ ?_
            exact ⟨(decide ((byteAt [95, 43, 45, 35] (x1.toNat : Int)) < 0)), h, ((((hf.nil.cons (hf.get 39 _ rfl)).cons (hf.get 7 _ rfl)).cons (hf.get 6 _ rfl)).cons (hf.get 0 _ rfl)), hs⟩
          · replace h := h.2 hc
            refine S.val hf hs (v := .int .u8 (x1.toNat : Int)) rfl rfl rfl (V.pure rfl) (fun a hf => ?_)
            refine S.val hf hs (v := .bool (decide ((x1.toNat : Int) > 57))) rfl rfl rfl (V.pure rfl) (fun a hf => ?_)
            refine S.val hf hs (v := .bool (decide ((x1.toNat : Int) > 57))) rfl rfl rfl (V.pure rfl) (fun a hf => ?_)
            refine S.val hf hs (v := .bool (decide ((x1.toNat : Int) > 57))) rfl rfl rfl (V.pure rfl) (fun a hf => ?_)
            refine S.split hf hs (b := decide ((x1.toNat : Int) > 57)) rfl rfl rfl (V.pure rfl) (fun hc a hf => ?_) (fun hc a hf => ?_)
            · replace h := h.1 hc
              refine S.val hf hs (v := .int .u8 (x1.toNat : Int)) rfl rfl rfl (V.pure rfl) (fun a hf => ?_)
              refine S.callv hf rfl rfl rfl (call_fn (vs := [.string (ba [95, 43, 45, 35]), .int .u8 (x1.toNat : Int)]) rfl rfl rfl Try.call39) (C_strings_IndexByte [95, 43, 45, 35] (x1.toNat : Int) _ ) (fun a w hf hs' => ?_)
              replace hs := hs.call hs'; clear hs'
              refine S.val hf hs (v := .bool (decide ((byteAt [95, 43, 45, 35] (x1.toNat : Int)) < 0))) rfl rfl rfl (V.pure rfl) (fun a hf => ?_)
              refine S.val hf hs (v := .bool (decide ((byteAt [95, 43, 45, 35] (x1.toNat : Int)) < 0))) rfl rfl rfl (V.pure rfl) (fun a hf => ?_)
              refine R.nil ?_
              refine X.then_ ?_
              exact ⟨(decide ((byteAt [95, 43, 45, 35] (x1.toNat : Int)) < 0)), h, ((((hf.nil.cons (hf.get 39 _ rfl)).cons (hf.get 7 _ rfl)).cons (hf.get 6 _ rfl)).cons (hf.get 0 _ rfl)), hs⟩
            · replace h := h.2 hc
              refine S.skip hf rfl rfl rfl (fun a hf => ?_)
              refine S.skip hf rfl rfl rfl (fun a hf => ?_)
              refine S.skip hf rfl rfl rfl (fun a hf => ?_)
              refine S.val hf hs (v := .bool false) rfl rfl rfl (V.pure rfl) (fun a hf => ?_)
              refine R.nil ?_
              refine X.then_ ?_
              exact ⟨false, h, ((((hf.nil.cons (hf.get 39 _ rfl)).cons (hf.get 7 _ rfl)).cons (hf.get 6 _ rfl)).cons (hf.get 0 _ rfl)), hs⟩
        · replace h := h.2 hc
          refine S.val hf hs (v := .int .u8 (x1.toNat : Int)) rfl rfl rfl (V.pure rfl) (fun a hf => ?_)
          refine S.val hf hs (v := .bool (decide ((x1.toNat : Int) > 122))) rfl rfl rfl (V.pure rfl) (fun a hf => ?_)
          refine S.val hf hs (v := .bool (decide ((x1.toNat : Int) > 122))) rfl rfl rfl (V.pure rfl) (fun a hf => ?_)
          refine S.val hf hs (v := .bool (decide ((x1.toNat : Int) > 122))) rfl rfl rfl (V.pure rfl) (fun a hf => ?_)
          refine S.split hf hs (b := decide ((x1.toNat : Int) > 122)) rfl rfl rfl (V.pure rfl) (fun hc a hf => ?_) (fun hc a hf => ?_)
          · replace h := h.1 hc
            refine S.val hf hs (v := .int .u8 (x1.toNat : Int)) rfl rfl rfl (V.pure rfl) (fun a hf => ?_)
            refine S.val hf hs (v := .bool (decide ((x1.toNat : Int) < 48))) rfl rfl rfl (V.pure rfl) (fun a hf => ?_)
            refine S.split hf hs (b := decide ((x1.toNat : Int) < 48)) rfl rfl rfl (V.pure rfl) (fun hc a hf => ?_) (fun hc a hf => ?_)
            · replace h := h.1 hc
              refine S.skip hf rfl rfl rfl (fun a hf => ?_)
              refine S.skip hf rfl rfl rfl (fun a hf => ?_)
              refine S.val hf hs (v := .bool true) rfl rfl rfl (V.pure rfl) (fun a hf => ?_)
              refine S.val hf hs (v := .bool true) rfl rfl rfl (V.pure rfl) (fun a hf => ?_)
              refine S.val hf hs (v := .bool true) rfl rfl rfl (V.pure rfl) (fun a hf => ?_)
              refine S.val hf hs (v := .int .u8 (x1.toNat : Int)) rfl rfl rfl (V.pure rfl) (fun a hf => ?_)
              refine S.callv hf rfl rfl rfl (call_fn (vs := [.string (ba [95, 43, 45, 35]), .int .u8 (x1.toNat : Int)]) rfl rfl rfl Try.call39) (C_strings_IndexByte [95, 43, 45, 35] (x1.toNat : Int) _ ) (fun a w hf hs' => ?_)
              replace hs := hs.call hs'; clear hs'
              refine S.val hf hs (v := .bool (decide ((byteAt [95, 43, 45, 35] (x1.toNat : Int)) < 0))) rfl rfl rfl (V.pure rfl) (fun a hf => ?_)
              refine S.val hf hs (v := .bool (decide ((byteAt [95, 43, 45, 35] (x1.toNat : Int)) < 0))) rfl rfl rfl (V.pure rfl) (fun a hf => ?_)
              refine R.nil ?_
              refine X.then_ ?_
              exact ⟨(decide ((byteAt [95, 43, 45, 35] (x1.toNat : Int)) < 0)), h, ((((hf.nil.cons (hf.get 39 _ rfl)).cons (hf.get 7 _ rfl)).cons (hf.get 6 _ rfl)).cons (hf.get 0 _ rfl)), hs⟩
            · replace h := h.2 hc
              refine S.val hf hs (v := .int .u8 (x1.toNat : Int)) rfl rfl rfl (V.pure rfl) (fun a hf => ?_)
              refine S.val hf hs (v := .bool (decide ((x1.toNat : Int) > 57))) rfl rfl rfl (V.pure rfl) (fun a hf => ?_)
              refine S.val hf hs (v := .bool (decide ((x1.toNat : Int) > 57))) rfl rfl rfl (V.pure rfl) (fun a hf => ?_)
              refine S.val hf hs (v := .bool (decide ((x1.toNat : Int) > 57))) rfl rfl rfl (V.pure rfl) (fun a hf => ?_)
              refine S.split hf hs (b := decide ((x1.toNat : Int) > 57)) rfl rfl rfl (V.pure rfl) (fun hc a hf => ?_) (fun hc a hf => ?_)
              · replace h := h.1 hc
                refine S.val hf hs (v := .int .u8 (x1.toNat : Int)) rfl rfl rfl (V.pure rfl) (fun a hf => ?_)
                refine S.callv hf rfl rfl rfl (call_fn (vs := [.string (ba [95, 43, 45, 35]), .int .u8 (x1.toNat : Int)]) rfl rfl rfl Try.call39) (C_strings_IndexByte [95, 43, 45, 35] (x1.toNat : Int) _ ) (fun a w hf hs' => ?_)
                replace hs := hs.call hs'; clear hs'
                refine S.val hf hs (v := .bool (decide ((byteAt [95, 43, 45, 35] (x1.toNat : Int)) < 0))) rfl rfl rfl (V.pure rfl) (fun a hf => ?_)
                refine S.val hf hs (v := .bool (decide ((byteAt [95, 43, 45, 35] (x1.toNat : Int)) < 0))) rfl rfl rfl (V.pure rfl) (fun a hf => ?_)
                refine R.nil ?_
                refine X.then_ ?_
                exact ⟨(decide ((byteAt [95, 43, 45, 35] (x1.toNat : Int)) < 0)), h, ((((hf.nil.cons (hf.get 39 _ rfl)).cons (hf.get 7 _ rfl)).cons (hf.get 6 _ rfl)).cons (hf.get 0 _ rfl)), hs⟩
              · replace h := h.2 hc
                refine S.skip hf rfl rfl rfl (fun a hf => ?_)
                refine S.skip hf rfl rfl rfl (fun a hf => ?_)
                refine S.skip hf rfl rfl rfl (fun a hf => ?_)
                refine S.val hf hs (v := .bool false) rfl rfl rfl (V.pure rfl) (fun a hf => ?_)
                refine R.nil ?_
                refine X.then_ ?_
                exact ⟨false, h, ((((hf.nil.cons (hf.get 39 _ rfl)).cons (hf.get 7 _ rfl)).cons (hf.get 6 _ rfl)).cons (hf.get 0 _ rfl)), hs⟩
          · replace h := h.2 hc
            refine S.skip hf rfl rfl rfl (fun a hf => ?_)
            refine S.skip hf rfl rfl rfl (fun a hf => ?_)
            refine S.skip hf rfl rfl rfl (fun a hf => ?_)
            refine S.skip hf rfl rfl rfl (fun a hf => ?_)
            refine S.skip hf rfl rfl rfl (fun a hf => ?_)
            refine S.skip hf rfl rfl rfl (fun a hf => ?_)
            refine S.val hf hs (v := .bool false) rfl rfl rfl (V.pure rfl) (fun a hf => ?_)
            refine S.val hf hs (v := .bool false) rfl rfl rfl (V.pure rfl) (fun a hf => ?_)
            refine S.skip hf rfl rfl rfl (fun a hf => ?_)
            refine S.skip hf rfl rfl rfl (fun a hf => ?_)
            refine S.skip hf rfl rfl rfl (fun a hf => ?_)
            refine S.val hf hs (v := .bool false) rfl rfl rfl (V.pure rfl) (fun a hf => ?_)
            refine R.nil ?_
            refine X.then_ ?_
            exact ⟨false, h, ((((hf.nil.cons (hf.get 39 _ rfl)).cons (hf.get 7 _ rfl)).cons (hf.get 6 _ rfl)).cons (hf.get 0 _ rfl)), hs⟩
      · replace h := h.2 hc
        refine S.val hf hs (v := .int .u8 (x1.toNat : Int)) rfl rfl rfl (V.pure rfl) (fun a hf => ?_)
        refine S.val hf hs (v := .bool (decide ((x1.toNat : Int) > 90))) rfl rfl rfl (V.pure rfl) (fun a hf => ?_)
        refine S.val hf hs (v := .bool (decide ((x1.toNat : Int) > 90))) rfl rfl rfl (V.pure rfl) (fun a hf => ?_)
        refine S.split hf hs (b := decide ((x1.toNat : Int) > 90)) rfl rfl rfl (V.pure rfl) (fun hc a hf => ?_) (fun hc a hf => ?_)
        · replace h := h.1 hc
          refine S.val hf hs (v := .int .u8 (x1.toNat : Int)) rfl rfl rfl (V.pure rfl) (fun a hf => ?_)
          refine S.val hf hs (v := .bool (decide ((x1.toNat : Int) < 97))) rfl rfl rfl (V.pure rfl) (fun a hf => ?_)
          refine S.split hf hs (b := decide ((x1.toNat : Int) < 97)) rfl rfl rfl (V.pure rfl) (fun hc a hf => ?_) (fun hc a hf => ?_)
          · replace h := h.1 hc
            refine S.skip hf rfl rfl rfl (fun a hf => ?_)
            refine S.skip hf rfl rfl rfl (fun a hf => ?_)
            refine S.val hf hs (v := .bool true) rfl rfl rfl (V.pure rfl) (fun a hf => ?_)
            refine S.val hf hs (v := .bool true) rfl rfl rfl (V.pure rfl) (fun a hf => ?_)
            refine S.val hf hs (v := .bool true) rfl rfl rfl (V.pure rfl) (fun a hf => ?_)
            refine S.val hf hs (v := .int .u8 (x1.toNat : Int)) rfl rfl rfl (V.pure rfl) (fun a hf => ?_)
            refine S.val hf hs (v := .bool (decide ((x1.toNat : Int) < 48))) rfl rfl rfl (V.pure rfl) (fun a hf => ?_)
            refine S.split hf hs (b := decide ((x1.toNat : Int) < 48)) rfl rfl rfl (V.pure rfl) (fun hc a hf => ?_) (fun hc a hf => ?_)
            · replace h := h.1 hc
              refine S.skip hf rfl rfl rfl (fun a hf => ?_)
              refine S.skip hf rfl rfl rfl (fun a hf => ?_)
              refine S.val hf hs (v := .bool true) rfl rfl rfl (V.pure rfl) (fun a hf => ?_)
              refine S.val hf hs (v := .bool true) rfl rfl rfl (V.pure rfl) (fun a hf => ?_)
              refine S.val hf hs (v := .bool true) rfl rfl rfl (V.pure rfl) (fun a hf => ?_)
              refine S.val hf hs (v := .int .u8 (x1.toNat : Int)) rfl rfl rfl (V.pure rfl) (fun a hf => ?_)
              refine S.callv hf rfl rfl rfl (call_fn (vs := [.string (ba [95, 43, 45, 35]), .int .u8 (x1.toNat : Int)]) rfl rfl rfl Try.call39) (C_strings_IndexByte [95, 43, 45, 35] (x1.toNat : Int) _ ) (fun a w hf hs' => ?_)
              replace hs := hs.call hs'; clear hs'
              refine S.val hf hs (v := .bool (decide ((byteAt [95, 43, 45, 35] (x1.toNat : Int)) < 0))) rfl rfl rfl (V.pure rfl) (fun a hf => ?_)
              refine S.val hf hs (v := .bool (decide ((byteAt [95, 43, 45, 35] (x1.toNat : Int)) < 0))) rfl rfl rfl (V.pure rfl) (fun a hf => ?_)
              refine R.nil ?_
              refine X.then_ ?_
              exact ⟨(decide ((byteAt [95, 43, 45, 35] (x1.toNat : Int)) < 0)), h, ((((hf.nil.cons (hf.get 39 _ rfl)).cons (hf.get 7 _ rfl)).cons (hf.get 6 _ rfl)).cons (hf.get 0 _ rfl)), hs⟩
            · replace h := h.2 hc
              refine S.val hf hs (v := .int .u8 (x1.toNat : Int)) rfl rfl rfl (V.pure rfl) (fun a hf => ?_)
              refine S.val hf hs (v := .bool (decide ((x1.toNat : Int) > 57))) rfl rfl rfl (V.pure rfl) (fun a hf => ?_)
              refine S.val hf hs (v := .bool (decide ((x1.toNat : Int) > 57))) rfl rfl rfl (V.pure rfl) (fun a hf => ?_)
              refine S.val hf hs (v := .bool (decide ((x1.toNat : Int) > 57))) rfl rfl rfl (V.pure rfl) (fun a hf => ?_)
              refine S.split hf hs (b := decide ((x1.toNat : Int) > 57)) rfl rfl rfl (V.pure rfl) (fun hc a hf => ?_) (fun hc a hf => ?_)
              · replace h := h.1 hc
                refine S.val hf hs (v := .int .u8 (x1.toNat : Int)) rfl rfl rfl (V.pure rfl) (fun a hf => ?_)
                refine S.callv hf rfl rfl rfl (call_fn (vs := [.string (ba [95, 43, 45, 35]), .int .u8 (x1.toNat : Int)]) rfl rfl rfl Try.call39) (C_strings_IndexByte [95, 43, 45, 35] (x1.toNat : Int) _ ) (fun a w hf hs' => ?_)
                replace hs := hs.call hs'; clear hs'
                refine S.val hf hs (v := .bool (decide ((byteAt [95, 43, 45, 35] (x1.toNat : Int)) < 0))) rfl rfl rfl (V.pure rfl) (fun a hf => ?_)
                refine S.val hf hs (v := .bool (decide ((byteAt [95, 43, 45, 35] (x1.toNat : Int)) < 0))) rfl rfl rfl (V.pure rfl) (fun a hf => ?_)
                refine R.nil ?_
                refine X.then_ ?_
                exact ⟨(decide ((byteAt [95, 43, 45, 35] (x1.toNat : Int)) < 0)), h, ((((hf.nil.cons (hf.get 39 _ rfl)).cons (hf.get 7 _ rfl)).cons (hf.get 6 _ rfl)).cons (hf.get 0 _ rfl)), hs⟩
              · replace h := h.2 hc
                refine S.skip hf rfl rfl rfl (fun a hf => ?_)
                refine S.skip hf rfl rfl rfl (fun a hf => ?_)
                refine S.skip hf rfl rfl rfl (fun a hf => ?_)
                refine S.val hf hs (v := .bool false) rfl rfl rfl (V.pure rfl) (fun a hf => ?_)
                refine R.nil ?_
                refine X.then_ ?_
                exact ⟨false, h, ((((hf.nil.cons (hf.get 39 _ rfl)).cons (hf.get 7 _ rfl)).cons (hf.get 6 _ rfl)).cons (hf.get 0 _ rfl)), hs⟩
          · replace h := h.2 hc
            refine S.val hf hs (v := .int .u8 (x1.toNat : Int)) rfl rfl rfl (V.pure rfl) (fun a hf => ?_)
            refine S.val hf hs (v := .bool (decide ((x1.toNat : Int) > 122))) rfl rfl rfl (V.pure rfl) (fun a hf => ?_)
            refine S.val hf hs (v := .bool (decide ((x1.toNat : Int) > 122))) rfl rfl rfl (V.pure rfl) (fun a hf => ?_)
            refine S.val hf hs (v := .bool (decide ((x1.toNat : Int) > 122))) rfl rfl rfl (V.pure rfl) (fun a hf => ?_)
            refine S.split hf hs (b := decide ((x1.toNat : Int) > 122)) rfl rfl rfl (V.pure rfl) (fun hc a hf => ?_) (fun hc a hf => ?_)
            · replace h := h.1 hc
              refine S.val hf hs (v := .int .u8 (x1.toNat : Int)) rfl rfl rfl (V.pure rfl) (fun a hf => ?_)
              refine S.val hf hs (v := .bool (decide ((x1.toNat : Int) < 48))) rfl rfl rfl (V.pure rfl) (fun a hf => ?_)
              refine S.split hf hs (b := decide ((x1.toNat : Int) < 48)) rfl rfl rfl (V.pure rfl) (fun hc a hf => ?_) (fun hc a hf => ?_)
              · replace h := h.1 hc
                refine S.skip hf rfl rfl rfl (fun a hf => ?_)
                refine S.skip hf rfl rfl rfl (fun a hf => ?_)
                refine S.val hf hs (v := .bool true) rfl rfl rfl (V.pure rfl) (fun a hf => ?_)
                refine S.val hf hs (v := .bool true) rfl rfl rfl (V.pure rfl) (fun a hf => ?_)
                refine S.val hf hs (v := .bool true) rfl rfl rfl (V.pure rfl) (fun a hf => ?_)
                refine S.val hf hs (v := .int .u8 (x1.toNat : Int)) rfl rfl rfl (V.pure rfl) (fun a hf => ?_)
                refine S.callv hf rfl rfl rfl (call_fn (vs := [.string (ba [95, 43, 45, 35]), .int .u8 (x1.toNat : Int)]) rfl rfl rfl Try.call39) (C_strings_IndexByte [95, 43, 45, 35] (x1.toNat : Int) _ ) (fun a w hf hs' => ?_)
                replace hs := hs.call hs'; clear hs'
                refine S.val hf hs (v := .bool (decide ((byteAt [95, 43, 45, 35] (x1.toNat : Int)) < 0))) rfl rfl rfl (V.pure rfl) (fun a hf => ?_)
                refine S.val hf hs (v := .bool (decide ((byteAt [95, 43, 45, 35] (x1.toNat : Int)) < 0))) rfl rfl rfl (V.pure rfl) (fun a hf => ?_)
                refine R.nil ?_
                refine X.then_ ?_
                exact ⟨(decide ((byteAt [95, 43, 45, 35] (x1.toNat : Int)) < 0)), h, ((((hf.nil.cons (hf.get 39 _ rfl)).cons (hf.get 7 _ rfl)).cons (hf.get 6 _ rfl)).cons (hf.get 0 _ rfl)), hs⟩
              · replace h := h.2 hc
                refine S.val hf hs (v := .int .u8 (x1.toNat : Int)) rfl rfl rfl (V.pure rfl) (fun a hf => ?_)
                refine S.val hf hs (v := .bool (decide ((x1.toNat : Int) > 57))) rfl rfl rfl (V.pure rfl) (fun a hf => ?_)
                refine S.val hf hs (v := .bool (decide ((x1.toNat : Int) > 57))) rfl rfl rfl (V.pure rfl) (fun a hf => ?_)
                refine S.val hf hs (v := .bool (decide ((x1.toNat : Int) > 57))) rfl rfl rfl (V.pure rfl) (fun a hf => ?_)
                refine S.split hf hs (b := decide ((x1.toNat : Int) > 57)) rfl rfl rfl (V.pure rfl) (fun hc a hf => ?_) (fun hc a hf => ?_)
                · replace h := h.1 hc
                  refine S.val hf hs (v := .int .u8 (x1.toNat : Int)) rfl rfl rfl (V.pure rfl) (fun a hf => ?_)
                  refine S.callv hf rfl rfl rfl (call_fn (vs := [.string (ba [95, 43, 45, 35]), .int .u8 (x1.toNat : Int)]) rfl rfl rfl Try.call39) (C_strings_IndexByte [95, 43, 45, 35] (x1.toNat : Int) _ ) (fun a w hf hs' => ?_)
                  replace hs := hs.call hs'; clear hs'
                  refine S.val hf hs (v := .bool (decide ((byteAt [95, 43, 45, 35] (x1.toNat : Int)) < 0))) rfl rfl rfl (V.pure rfl) (fun a hf => ?_)
                  refine S.val hf hs (v := .bool (decide ((byteAt [95, 43, 45, 35] (x1.toNat : Int)) < 0))) rfl rfl rfl (V.pure rfl) (fun a hf => ?_)
                  refine R.nil ?_
                  refine X.then_ ?_
                  exact ⟨(decide ((byteAt [95, 43, 45, 35] (x1.toNat : Int)) < 0)), h, ((((hf.nil.cons (hf.get 39 _ rfl)).cons (hf.get 7 _ rfl)).cons (hf.get 6 _ rfl)).cons (hf.get 0 _ rfl)), hs⟩
                · replace h := h.2 hc
                  refine S.skip hf rfl rfl rfl (fun a hf => ?_)
                  refine S.skip hf rfl rfl rfl (fun a hf => ?_)
                  refine S.skip hf rfl rfl rfl (fun a hf => ?_)
                  refine S.val hf hs (v := .bool false) rfl rfl rfl (V.pure rfl) (fun a hf => ?_)
                  refine R.nil ?_
                  refine X.then_ ?_
                  exact ⟨false, h, ((((hf.nil.cons (hf.get 39 _ rfl)).cons (hf.get 7 _ rfl)).cons (hf.get 6 _ rfl)).cons (hf.get 0 _ rfl)), hs⟩
            · replace h := h.2 hc
              refine S.skip hf rfl rfl rfl (fun a hf => ?_)
              refine S.skip hf rfl rfl rfl (fun a hf => ?_)
              refine S.skip hf rfl rfl rfl (fun a hf => ?_)
              refine S.skip hf rfl rfl rfl (fun a hf => ?_)
              refine S.skip hf rfl rfl rfl (fun a hf => ?_)
              refine S.skip hf rfl rfl rfl (fun a hf => ?_)
              refine S.val hf hs (v := .bool false) rfl rfl rfl (V.pure rfl) (fun a hf => ?_)
              refine S.val hf hs (v := .bool false) rfl rfl rfl (V.pure rfl) (fun a hf => ?_)
              refine S.skip hf rfl rfl rfl (fun a hf => ?_)
              refine S.skip hf rfl rfl rfl (fun a hf => ?_)
              refine S.skip hf rfl rfl rfl (fun a hf => ?_)
              refine S.val hf hs (v := .bool false) rfl rfl rfl (V.pure rfl) (fun a hf => ?_)
              refine R.nil ?_
              refine X.then_ ?_
              exact ⟨false, h, ((((hf.nil.cons (hf.get 39 _ rfl)).cons (hf.get 7 _ rfl)).cons (hf.get 6 _ rfl)).cons (hf.get 0 _ rfl)), hs⟩
        · replace h := h.2 hc
          refine S.skip hf rfl rfl rfl (fun a hf => ?_)
          refine S.skip hf rfl rfl rfl (fun a hf => ?_)
          refine S.skip hf rfl rfl rfl (fun a hf => ?_)
          refine S.skip hf rfl rfl rfl (fun a hf => ?_)
          refine S.skip hf rfl rfl rfl (fun a hf => ?_)
          refine S.skip hf rfl rfl rfl (fun a hf => ?_)
          refine S.val hf hs (v := .bool false) rfl rfl rfl (V.pure rfl) (fun a hf => ?_)
          refine S.val hf hs (v := .bool false) rfl rfl rfl (V.pure rfl) (fun a hf => ?_)
          refine S.skip hf rfl rfl rfl (fun a hf => ?_)
          refine S.skip hf rfl rfl rfl (fun a hf => ?_)
          refine S.skip hf rfl rfl rfl (fun a hf => ?_)
          refine S.skip hf rfl rfl rfl (fun a hf => ?_)
          refine S.skip hf rfl rfl rfl (fun a hf => ?_)
          refine S.skip hf rfl rfl rfl (fun a hf => ?_)
          refine S.val hf hs (v := .bool false) rfl rfl rfl (V.pure rfl) (fun a hf => ?_)
          refine S.val hf hs (v := .bool false) rfl rfl rfl (V.pure rfl) (fun a hf => ?_)
          refine S.skip hf rfl rfl rfl (fun a hf => ?_)
          refine S.skip hf rfl rfl rfl (fun a hf => ?_)
          refine S.skip hf rfl rfl rfl (fun a hf => ?_)
          refine S.val hf hs (v := .bool false) rfl rfl rfl (V.pure rfl) (fun a hf => ?_)
          refine R.nil ?_
          refine X.then_ ?_
          exact ⟨false, h, ((((hf.nil.cons (hf.get 39 _ rfl)).cons (hf.get 7 _ rfl)).cons (hf.get 6 _ rfl)).cons (hf.get 0 _ rfl)), hs⟩
  · replace h := h.2 hc
    refine wp_exit ?_
    refine X.then_exit ?_
    refine X.then_exit ?_
    refine X.blk_exit ?_
    refine X.then_ ?_
    refine wp_seq ?_
    refine R.list ?_
    refine S.val hf hs (v := .string (ba s_)) rfl rfl rfl (V.pure rfl) (fun a hf => ?_)
    refine S.val hf hs (v := .int .i64 (s_.length : Int)) rfl rfl rfl (V.lenStr rfl rfl Try.runUnderlying9) (fun a hf => ?_)
    refine S.val hf hs (v := .bool (decide ((s_.length : Int) ≥ 1))) rfl rfl rfl (V.pure rfl) (fun a hf => ?_)
    refine S.split hf hs (b := decide ((s_.length : Int) ≥ 1)) rfl rfl rfl (V.pure rfl) (fun hc a hf => ?_) (fun hc a hf => ?_)
    · replace h := h.1 hc
      refine S.val hf hs (v := .string (ba s_)) rfl rfl rfl (V.pure rfl) (fun a hf => ?_)
      refine S.val hf hs (v := .int .i64 (s_.length : Int)) rfl rfl rfl (V.lenStr rfl rfl Try.runUnderlying9) (fun a hf => ?_)
      refine S.val hf hs (v := .bool (decide ((s_.length : Int) ≤ 40))) rfl rfl rfl (V.pure rfl) (fun a hf => ?_)
      refine S.val hf hs (v := .bool (decide ((s_.length : Int) ≤ 40))) rfl rfl rfl (V.pure rfl) (fun a hf => ?_)
      refine S.val hf hs (v := .bool (decide ((s_.length : Int) ≤ 40))) rfl rfl rfl (V.pure rfl) (fun a hf => ?_)
      refine R.nil ?_
      refine X.then_ ?_
      refine wp_ret ?_
      exact L.ret hf (run_results1 Try.results35 (ResIs.tmp hf rfl)) ⟨(decide ((s_.length : Int) ≤ 40)), rfl, h, hs.nil⟩
    · replace h := h.2 hc
      refine S.skip hf rfl rfl rfl (fun a hf => ?_)
      refine S.skip hf rfl rfl rfl (fun a hf => ?_)
      refine S.skip hf rfl rfl rfl (fun a hf => ?_)
      refine S.val hf hs (v := .bool false) rfl rfl rfl (V.pure rfl) (fun a hf => ?_)
      refine S.val hf hs (v := .bool false) rfl rfl rfl (V.pure rfl) (fun a hf => ?_)
      refine R.nil ?_
      refine X.then_ ?_
      refine wp_ret ?_
      exact L.ret hf (run_results1 Try.results35 (ResIs.tmp hf rfl)) ⟨false, rfl, h, hs.nil⟩

set_option linter.unusedVariables false
def M_ref10_isWord_k2 (Q : Bool → Prop) (n2 : Int) (again1 : Int → Prop) (c1 : Bool) : Prop :=
  cnd c1 (Q false) (again1 (w64 (n2 + 1)))
def M_ref10_isWord_L1 (s_ : Str) (Q : Bool → Prop) (again1 : Int → Prop) (n2 : Int) : Prop :=
  cnd (decide (n2 < (s_.length : Int))) (idx s_ n2 fun x1 => cnd (decide ((x1.toNat : Int) < 97)) (cnd (decide ((x1.toNat : Int) < 65)) (cnd (decide ((x1.toNat : Int) < 48)) (M_ref10_isWord_k2 Q n2 again1 (decide ((byteAt [95, 43, 45, 35] (x1.toNat : Int)) < 0))) (cnd (decide ((x1.toNat : Int) > 57)) (M_ref10_isWord_k2 Q n2 again1 (decide ((byteAt [95, 43, 45, 35] (x1.toNat : Int)) < 0))) (M_ref10_isWord_k2 Q n2 again1 false))) (cnd (decide ((x1.toNat : Int) > 90)) (cnd (decide ((x1.toNat : Int) < 48)) (M_ref10_isWord_k2 Q n2 again1 (decide ((byteAt [95, 43, 45, 35] (x1.toNat : Int)) < 0))) (cnd (decide ((x1.toNat : Int) > 57)) (M_ref10_isWord_k2 Q n2 again1 (decide ((byteAt [95, 43, 45, 35] (x1.toNat : Int)) < 0))) (M_ref10_isWord_k2 Q n2 again1 false))) (M_ref10_isWord_k2 Q n2 again1 false))) (cnd (decide ((x1.toNat : Int) > 122)) (cnd (decide ((x1.toNat : Int) < 65)) (cnd (decide ((x1.toNat : Int) < 48)) (M_ref10_isWord_k2 Q n2 again1 (decide ((byteAt [95, 43, 45, 35] (x1.toNat : Int)) < 0))) (cnd (decide ((x1.toNat : Int) > 57)) (M_ref10_isWord_k2 Q n2 again1 (decide ((byteAt [95, 43, 45, 35] (x1.toNat : Int)) < 0))) (M_ref10_isWord_k2 Q n2 again1 false))) (cnd (decide ((x1.toNat : Int) > 90)) (cnd (decide ((x1.toNat : Int) < 48)) (M_ref10_isWord_k2 Q n2 again1 (decide ((byteAt [95, 43, 45, 35] (x1.toNat : Int)) < 0))) (cnd (decide ((x1.toNat : Int) > 57)) (M_ref10_isWord_k2 Q n2 again1 (decide ((byteAt [95, 43, 45, 35] (x1.toNat : Int)) < 0))) (M_ref10_isWord_k2 Q n2 again1 false))) (M_ref10_isWord_k2 Q n2 again1 false))) (M_ref10_isWord_k2 Q n2 again1 false))) (Q (within (s_.length : Int) 1 40))
def M_ref10_isWord (s_ : Str) (Q : Bool → Prop) : Prop :=
  lp (fun again (s : Int) => M_ref10_isWord_L1 s_ Q (fun n2 => again n2) s) 0
set_option maxHeartbeats 1000000 in
theorem R_ref10_isWord (s_ : Str) (w0 : World)  (Q : Bool → Prop) (h : M_ref10_isWord s_ Q) :
    Ret Try.prog 36 #[.string (ba s_)] w0 fun v w' => ∃ (r0 : Bool), v = .bool r0 ∧ Q r0 ∧ Sat w0 none_ [] w' := by
  refine fn_enter Try.func36 rfl Try.ntmps36 rfl (fs := [(0, .string (ba s_))]) rfl (fun a hf => ?_)
  have hs := Sat.start w0 none_
  unfold M_ref10_isWord at h
  refine wp_seq ?_
  refine R.list ?_
  refine S.val hf hs (v := .bool false) rfl rfl rfl (V.pure rfl) (fun a hf => ?_)
  refine R.nil ?_
  refine X.then_ ?_
  refine wp_seq ?_
  refine wp_seq ?_
  refine R.list ?_
  refine S.val hf hs (v := .string (ba s_)) rfl rfl rfl (V.pure rfl) (fun a hf => ?_)
  refine S.val hf hs (v := .int .i64 (s_.length : Int)) rfl rfl rfl (V.lenStr rfl rfl Try.runUnderlying9) (fun a hf => ?_)
  refine S.val hf hs (v := .int .i64 0) rfl rfl rfl (V.pure rfl) (fun a hf => ?_)
  refine R.nil ?_
  refine X.then_ ?_
  refine wp_block ?_
  obtain ⟨kk, h⟩ := h
  refine C.loop (fun kk a w => ∃ (n2 : Int), iterF (fun again (s : Int) => M_ref10_isWord_L1 s_ Q (fun n2 => again n2) s) kk n2 ∧ FrOk 44 [(0, .string (ba s_)), (6, .int .i64 (s_.length : Int)), (7, .int .i64 n2)] a ∧ Sat w0 none_ [] w) kk ⟨0, h, (((hf.nil.cons (hf.get 7 _ rfl)).cons (hf.get 6 _ rfl)).cons (hf.get 0 _ rfl)), hs⟩ (fun a w ⟨_, h, _, _⟩ => h) ?_
  clear h hf hs
  rintro kk a w ⟨n2, h, hf, hs⟩
  obtain ⟨again1, hagain1⟩ : ∃ X : Int → Prop, X = (fun n2 => iterF (fun again (s : Int) => M_ref10_isWord_L1 s_ Q (fun n2 => again n2) s) kk n2) := ⟨_, rfl⟩
  replace h : M_ref10_isWord_L1 s_ Q again1 n2 := by rw [hagain1]; exact h
  unfold M_ref10_isWord_L1 at h
  refine wp_seq ?_
  refine R.list ?_
  refine S.val hf hs (v := .bool (decide (n2 < (s_.length : Int)))) rfl rfl rfl (V.pure rfl) (fun a hf => ?_)
  refine R.nil ?_
  refine X.then_ ?_
  refine wp_seq ?_
  refine C.cond hf (b := decide (n2 < (s_.length : Int))) rfl (fun hc => ?_) (fun hc => ?_)
  · replace h := h.1 hc
    refine wp_skip ?_
    refine X.then_ ?_
    refine wp_seq ?_
    refine wp_block ?_
    refine wp_seq ?_
    refine R.list ?_
    refine S.val hf hs (v := .int .i64 n2) rfl rfl rfl (V.pure rfl) (fun a hf => ?_)
    refine S.val hf hs (v := .int .i64 n2) rfl rfl rfl (V.pure rfl) (fun a hf => ?_)
    refine R.nil ?_
    refine X.then_ ?_
    refine wp_seq ?_
    refine R.list ?_
    refine S.val hf hs (v := .string (ba s_)) rfl rfl rfl (V.pure rfl) (fun a hf => ?_)
    refine S.val hf hs (v := .int .i64 n2) rfl rfl rfl (V.pure rfl) (fun a hf => ?_)
    obtain ⟨h0x1, x1, hx1, h⟩ := h
    refine S.val hf hs (v := .int .u8 (x1.toNat : Int)) rfl rfl rfl (V.indexStr rfl rfl rfl Try.runUnderlying9 h0x1 hx1) (fun a hf => ?_)
    refine S.val hf hs (v := .int .u8 (x1.toNat : Int)) rfl rfl rfl (V.pure rfl) (fun a hf => ?_)
    refine R.nil ?_
    refine X.then_ ?_
    refine wp_seq ?_
    refine C.cut (J := fun a w => ∃ (c1 : Bool), M_ref10_isWord_k2 Q n2 again1 c1 ∧ FrOk 44 [(0, .string (ba s_)), (6, .int .i64 (s_.length : Int)), (7, .int .i64 n2), (39, .bool c1)] a ∧ Sat w0 none_ [] w) ?_ ?_
    · rintro a w ⟨c1, h, hf, hs⟩
      unfold M_ref10_isWord_k2 at h
      refine C.cond hf (b := c1) rfl (fun hc => ?_) (fun hc => ?_)
      · replace h := h.1 hc
        refine wp_seq ?_
        refine R.list ?_
        refine S.val hf hs (v := .bool false) rfl rfl rfl (V.pure rfl) (fun a hf => ?_)
        refine R.nil ?_
        refine X.then_ ?_
        refine wp_ret ?_
        refine X.blk_ret ?_
        refine X.then_ret ?_
        refine X.then_ret ?_
        refine X.blk_ret ?_
        refine X.then_ret ?_
        exact L.ret hf (run_results1 Try.results36 (ResIs.tmp hf rfl)) ⟨false, rfl, h, hs.nil⟩
      · replace h := h.2 hc
        refine wp_skip ?_
        refine X.blk ?_
        refine X.then_ ?_
        refine R.list ?_
        refine S.val hf hs (v := .int .i64 (w64 (n2 + 1))) rfl rfl rfl (V.pure rfl) (fun a hf => ?_)
        refine S.val hf hs (v := .int .i64 (w64 (n2 + 1))) rfl rfl rfl (V.pure rfl) (fun a hf => ?_)
        refine R.nil ?_
        refine X.then_ ?_
        exact ⟨(w64 (n2 + 1)), (by rw [hagain1] at h; exact h), (((hf.nil.cons (hf.get 7 _ rfl)).cons (hf.get 6 _ rfl)).cons (hf.get 0 _ rfl)), hs⟩
    · skip
      refine R.list ?_
      refine S.val hf hs (v := .int .u8 (x1.toNat : Int)) rfl rfl rfl (V.pure rfl) (fun a hf => ?_)
      refine S.val hf hs (v := .bool (decide ((x1.toNat : Int) < 97))) rfl rfl rfl (V.pure rfl) (fun a hf => ?_)
      refine S.split hf hs (b := decide ((x1.toNat : Int) < 97)) rfl rfl rfl (V.pure rfl) (fun hc a hf => ?_) (fun hc a hf => ?_)
      · replace h := h.1 hc
        refine S.skip hf rfl rfl rfl (fun a hf => ?_)
        refine S.skip hf rfl rfl rfl (fun a hf => ?_)
        refine S.val hf hs (v := .bool true) rfl rfl rfl (V.pure rfl) (fun a hf => ?_)
        refine S.val hf hs (v := .bool true) rfl rfl rfl (V.pure rfl) (fun a hf => ?_)
        refine S.val hf hs (v := .int .u8 (x1.toNat : Int)) rfl rfl rfl (V.pure rfl) (fun a hf => ?_)
        refine S.val hf hs (v := .bool (decide ((x1.toNat : Int) < 65))) rfl rfl rfl (V.pure rfl) (fun a hf => ?_)
        refine S.split hf hs (b := decide ((x1.toNat : Int) < 65)) rfl rfl rfl (V.pure rfl) (fun hc a hf => ?_) (fun hc a hf => ?_)
        · replace h := h.1 hc
          refine S.skip hf rfl rfl rfl (fun a hf => ?_)
          refine S.skip hf rfl rfl rfl (fun a hf => ?_)
          refine S.val hf hs (v := .bool true) rfl rfl rfl (V.pure rfl) (fun a hf => ?_)
          refine S.val hf hs (v := .bool true) rfl rfl rfl (V.pure rfl) (fun a hf => ?_)
          refine S.val hf hs (v := .bool true) rfl rfl rfl (V.pure rfl) (fun a hf => ?_)
          refine S.val hf hs (v := .int .u8 (x1.toNat : Int)) rfl rfl rfl (V.pure rfl) (fun a hf => ?_)
          refine S.val hf hs (v := .bool (decide ((x1.toNat : Int) < 48))) rfl rfl rfl (V.pure rfl) (fun a hf => ?_)
          refine S.split hf hs (b := decide ((x1.toNat : Int) < 48)) rfl rfl rfl (V.pure rfl) (fun hc a hf => ?_) (fun hc a hf => ?_)
          · replace h := h.1 hc
            refine S.skip hf rfl rfl rfl (fun a hf => ?_)
            refine S.skip hf rfl rfl rfl (fun a hf => ?_)
            refine S.val hf hs (v := .bool true) rfl rfl rfl (V.pure rfl) (fun a hf => ?_)
            refine S.val hf hs (v := .bool true) rfl rfl rfl (V.pure rfl) (fun a hf => ?_)
            refine S.val hf hs (v := .bool true) rfl rfl rfl (V.pure rfl) (fun a hf => ?_)
            refine S.val hf hs (v := .int .u8 (x1.toNat : Int)) rfl rfl rfl (V.pure rfl) (fun a hf => ?_)
            refine S.callv hf rfl rfl rfl (call_fn (vs := [.string (ba [95, 43, 45, 35]), .int .u8 (x1.toNat : Int)]) rfl rfl rfl Try.call39) (C_strings_IndexByte [95, 43, 45, 35] (x1.toNat : Int) _ ) (fun a w hf hs' => ?_)
            replace hs := hs.call hs'; clear hs'
            refine S.val hf hs (v := .bool (decide ((byteAt [95, 43, 45, 35] (x1.toNat : Int)) < 0))) rfl rfl rfl (V.pure rfl) (fun a hf => ?_)
            refine S.val hf hs (v := .bool (decide ((byteAt [95, 43, 45, 35] (x1.toNat : Int)) < 0))) rfl rfl rfl (V.pure rfl) (fun a hf => ?_)
            refine R.nil ?_
            refine X.then_ ?_
            exact ⟨(decide ((byteAt [95, 43, 45, 35] (x1.toNat : Int)) < 0)), h, ((((hf.nil.cons (hf.get 39 _ rfl)).cons (hf.get 7 _ rfl)).cons (hf.get 6 _ rfl)).cons (hf.get 0 _ rfl)), hs⟩
          · replace h := h.2 hc
            refine S.val hf hs (v := .int .u8 (x1.toNat : Int)) rfl rfl rfl (V.pure rfl) (fun a hf => ?_)
            refine S.val hf hs (v := .bool (decide ((x1.toNat : Int) > 57))) rfl rfl rfl (V.pure rfl) (fun a hf => ?_)
            refine S.val hf hs (v := .bool (decide ((x1.toNat : Int) > 57))) rfl rfl rfl (V.pure rfl) (fun a hf => ?_)
            refine S.val hf hs (v := .bool (decide ((x1.toNat : Int) > 57))) rfl rfl rfl (V.pure rfl) (fun a hf => ?_)
            refine S.split hf hs (b := decide ((x1.toNat : Int) > 57)) rfl rfl rfl (V.pure rfl) (fun hc a hf => ?_) (fun hc a hf => ?_)
            · replace h := h.1 hc
              refine S.val hf hs (v := .int .u8 (x1.toNat : Int)) rfl rfl rfl (V.pure rfl) (fun a hf => ?_)
              refine S.callv hf rfl rfl rfl (call_fn (vs := [.string (ba [95, 43, 45, 35]), .int .u8 (x1.toNat : Int)]) rfl rfl rfl Try.call39) (C_strings_IndexByte [95, 43, 45, 35] (x1.toNat : Int) _ ) (fun a w hf hs' => ?_)
              replace hs := hs.call hs'; clear hs'
              refine S.val hf hs (v := .bool (decide ((byteAt [95, 43, 45, 35] (x1.toNat : Int)) < 0))) rfl rfl rfl (V.pure rfl) (fun a hf => ?_)
              refine S.val hf hs (v := .bool (decide ((byteAt [95, 43, 45, 35] (x1.toNat : Int)) < 0))) rfl rfl rfl (V.pure rfl) (fun a hf => ?_)
              refine R.nil ?_
              refine X.then_ ?_
              exact ⟨(decide ((byteAt [95, 43, 45, 35] (x1.toNat : Int)) < 0)), h, ((((hf.nil.cons (hf.get 39 _ rfl)).cons (hf.get 7 _ rfl)).cons (hf.get 6 _ rfl)).cons (hf.get 0 _ rfl)), hs⟩
            · replace h := h.2 hc
              refine S.skip hf rfl rfl rfl (fun a hf => ?_)
              refine S.skip hf rfl rfl rfl (fun a hf => ?_)
              refine S.skip hf rfl rfl rfl (fun a hf => ?_)
              refine S.val hf hs (v := .bool false) rfl rfl rfl (V.pure rfl) (fun a hf => ?_)
              refine R.nil ?_
              refine X.then_ ?_
              exact ⟨false, h, ((((hf.nil.cons (hf.get 39 _ rfl)).cons (hf.get 7 _ rfl)).cons (hf.get 6 _ rfl)).cons (hf.get 0 _ rfl)), hs⟩
        · replace h := h.2 hc
          refine S.val hf hs (v := .int .u8 (x1.toNat : Int)) rfl rfl rfl (V.pure rfl) (fun a hf => ?_)
          refine S.val hf hs (v := .bool (decide ((x1.toNat : Int) > 90))) rfl rfl rfl (V.pure rfl) (fun a hf => ?_)
          refine S.val hf hs (v := .bool (decide ((x1.toNat : Int) > 90))) rfl rfl rfl (V.pure rfl) (fun a hf => ?_)
          refine S.val hf hs (v := .bool (decide ((x1.toNat : Int) > 90))) rfl rfl rfl (V.pure rfl) (fun a hf => ?_)
          refine S.split hf hs (b := decide ((x1.toNat : Int) > 90)) rfl rfl rfl (V.pure rfl) (fun hc a hf => ?_) (fun hc a hf => ?_)
          · replace h := h.1 hc
            refine S.val hf hs (v := .int .u8 (x1.toNat : Int)) rfl rfl rfl (V.pure rfl) (fun a hf => ?_)
            refine S.val hf hs (v := .bool (decide ((x1.toNat : Int) < 48))) rfl rfl rfl (V.pure rfl) (fun a hf => ?_)
            refine S.split hf hs (b := decide ((x1.toNat : Int) < 48)) rfl rfl rfl (V.pure rfl) (fun hc a hf => ?_) (fun hc a hf => ?_)
            · replace h := h.1 hc
              refine S.skip hf rfl rfl rfl (fun a hf => ?_)
              refine S.skip hf rfl rfl rfl (fun a hf => ?_)
              refine S.val hf hs (v := .bool true) rfl rfl rfl (V.pure rfl) (fun a hf => ?_)
              refine S.val hf hs (v := .bool true) rfl rfl rfl (V.pure rfl) (fun a hf => ?_)
              refine S.val hf hs (v := .bool true) rfl rfl rfl (V.pure rfl) (fun a hf => ?_)
              refine S.val hf hs (v := .int .u8 (x1.toNat : Int)) rfl rfl rfl (V.pure rfl) (fun a hf => ?_)
              refine S.callv hf rfl rfl rfl (call_fn (vs := [.string (ba [95, 43, 45, 35]), .int .u8 (x1.toNat : Int)]) rfl rfl rfl Try.call39) (C_strings_IndexByte [95, 43, 45, 35] (x1.toNat : Int) _ ) (fun a w hf hs' => ?_)
              replace hs := hs.call hs'; clear hs'
              refine S.val hf hs (v := .bool (decide ((byteAt [95, 43, 45, 35] (x1.toNat : Int)) < 0))) rfl rfl rfl (V.pure rfl) (fun a hf => ?_)
              refine S.val hf hs (v := .bool (decide ((byteAt [95, 43, 45, 35] (x1.toNat : Int)) < 0))) rfl rfl rfl (V.pure rfl) (fun a hf => ?_)
              refine R.nil ?_
              refine X.then_ ?_
              exact ⟨(decide ((byteAt [95, 43, 45, 35] (x1.toNat : Int)) < 0)), h, ((((hf.nil.cons (hf.get 39 _ rfl)).cons (hf.get 7 _ rfl)).cons (hf.get 6 _ rfl)).cons (hf.get 0 _ rfl)), hs⟩
            · replace h := h.2 hc
              refine S.val hf hs (v := .int .u8 (x1.toNat : Int)) rfl rfl rfl (V.pure rfl) (fun a hf => ?_)
              refine S.val hf hs (v := .bool (decide ((x1.toNat : Int) > 57))) rfl rfl rfl (V.pure rfl) (fun a hf => ?_)
              refine S.val hf hs (v := .bool (decide ((x1.toNat : Int) > 57))) rfl rfl rfl (V.pure rfl) (fun a hf => ?_)
              refine S.val hf hs (v := .bool (decide ((x1.toNat : Int) > 57))) rfl rfl rfl (V.pure rfl) (fun a hf => ?_)
              refine S.split hf hs (b := decide ((x1.toNat : Int) > 57)) rfl rfl rfl (V.pure rfl) (fun hc a hf => ?_) (fun hc a hf => ?_)
              · replace h := h.1 hc
                refine S.val hf hs (v := .int .u8 (x1.toNat : Int)) rfl rfl rfl (V.pure rfl) (fun a hf => ?_)
                refine S.callv hf rfl rfl rfl (call_fn (vs := [.string (ba [95, 43, 45, 35]), .int .u8 (x1.toNat : Int)]) rfl rfl rfl Try.call39) (C_strings_IndexByte [95, 43, 45, 35] (x1.toNat : Int) _ ) (fun a w hf hs' => ?_)
                replace hs := hs.call hs'; clear hs'
                refine S.val hf hs (v := .bool (decide ((byteAt [95, 43, 45, 35] (x1.toNat : Int)) < 0))) rfl rfl rfl (V.pure rfl) (fun a hf => ?_)
                refine S.val hf hs (v := .bool (decide ((byteAt [95, 43, 45, 35] (x1.toNat : Int)) < 0))) rfl rfl rfl (V.pure rfl) (fun a hf => ?_)
                refine R.nil ?_
                refine X.then_ ?_
                exact ⟨(decide ((byteAt [95, 43, 45, 35] (x1.toNat : Int)) < 0)), h, ((((hf.nil.cons (hf.get 39 _ rfl)).cons (hf.get 7 _ rfl)).cons (hf.get 6 _ rfl)).cons (hf.get 0 _ rfl)), hs⟩
              · replace h := h.2 hc
                refine S.skip hf rfl rfl rfl (fun a hf => ?_)
                refine S.skip hf rfl rfl rfl (fun a hf => ?_)
                refine S.skip hf rfl rfl rfl (fun a hf => ?_)
                refine S.val hf hs (v := .bool false) rfl rfl rfl (V.pure rfl) (fun a hf => ?_)
                refine R.nil ?_
                refine X.then_ ?_
                exact ⟨false, h, ((((hf.nil.cons (hf.get 39 _ rfl)).cons (hf.get 7 _ rfl)).cons (hf.get 6 _ rfl)).cons (hf.get 0 _ rfl)), hs⟩
          · replace h := h.2 hc
            refine S.skip hf rfl rfl rfl (fun a hf => ?_)
            refine S.skip hf rfl rfl rfl (fun a hf => ?_)
            refine S.skip hf rfl rfl rfl (fun a hf => ?_)
            refine S.skip hf rfl rfl rfl (fun a hf => ?_)
            refine S.skip hf rfl rfl rfl (fun a hf => ?_)
            refine S.skip hf rfl rfl rfl (fun a hf => ?_)
            refine S.val hf hs (v := .bool false) rfl rfl rfl (V.pure rfl) (fun a hf => ?_)
            refine S.val hf hs (v := .bool false) rfl rfl rfl (V.pure rfl) (fun a hf => ?_)
            refine S.skip hf rfl rfl rfl (fun a hf => ?_)
            refine S.skip hf rfl rfl rfl (fun a hf => ?_)
            refine S.skip hf rfl rfl rfl (fun a hf => ?_)
            refine S.val hf hs (v := .bool false) rfl rfl rfl (V.pure rfl) (fun a hf => ?_)
            refine R.nil ?_
            refine X.then_ ?_
            exact ⟨false, h, ((((hf.nil.cons (hf.get 39 _ rfl)).cons (hf.get 7 _ rfl)).cons (hf.get 6 _ rfl)).cons (hf.get 0 _ rfl)), hs⟩
      · replace h := h.2 hc
        refine S.val hf hs (v := .int .u8 (x1.toNat : Int)) rfl rfl rfl (V.pure rfl) (fun a hf => ?_)
        refine S.val hf hs (v := .bool (decide ((x1.toNat : Int) > 122))) rfl rfl rfl (V.pure rfl) (fun a hf => ?_)
        refine S.val hf hs (v := .bool (decide ((x1.toNat : Int) > 122))) rfl rfl rfl (V.pure rfl) (fun a hf => ?_)
        refine S.split hf hs (b := decide ((x1.toNat : Int) > 122)) rfl rfl rfl (V.pure rfl) (fun hc a hf => ?_) (fun hc a hf => ?_)
        · replace h := h.1 hc
          refine S.val hf hs (v := .int .u8 (x1.toNat : Int)) rfl rfl rfl (V.pure rfl) (fun a hf => ?_)
          refine S.val hf hs (v := .bool (decide ((x1.toNat : Int) < 65))) rfl rfl rfl (V.pure rfl) (fun a hf => ?_)
          refine S.split hf hs (b := decide ((x1.toNat : Int) < 65)) rfl rfl rfl (V.pure rfl) (fun hc a hf => ?_) (fun hc a hf => ?_)
          · replace h := h.1 hc
            refine S.skip hf rfl rfl rfl (fun a hf => ?_)
            refine S.skip hf rfl rfl rfl (fun a hf => ?_)
            refine S.val hf hs (v := .bool true) rfl rfl rfl (V.pure rfl) (fun a hf => ?_)
            refine S.val hf hs (v := .bool true) rfl rfl rfl (V.pure rfl) (fun a hf => ?_)
            refine S.val hf hs (v := .bool true) rfl rfl rfl (V.pure rfl) (fun a hf => ?_)
            refine S.val hf hs (v := .int .u8 (x1.toNat : Int)) rfl rfl rfl (V.pure rfl) (fun a hf => ?_)
            refine S.val hf hs (v := .bool (decide ((x1.toNat : Int) < 48))) rfl rfl rfl (V.pure rfl) (fun a hf => ?_)
            refine S.split hf hs (b := decide ((x1.toNat : Int) < 48)) rfl rfl rfl (V.pure rfl) (fun hc a hf => ?_) (fun hc a hf => ?_)
            · replace h := h.1 hc
              refine S.skip hf rfl rfl rfl (fun a hf => ?_)
              refine S.skip hf rfl rfl rfl (fun a hf => ?_)
              refine S.val hf hs (v := .bool true) rfl rfl rfl (V.pure rfl) (fun a hf => ?_)
              refine S.val hf hs (v := .bool true) rfl rfl rfl (V.pure rfl) (fun a hf => ?_)
              refine S.val hf hs (v := .bool true) rfl rfl rfl (V.pure rfl) (fun a hf => ?_)
              refine S.val hf hs (v := .int .u8 (x1.toNat : Int)) rfl rfl rfl (V.pure rfl) (fun a hf => ?_)
              refine S.callv hf rfl rfl rfl (call_fn (vs := [.string (ba [95, 43, 45, 35]), .int .u8 (x1.toNat : Int)]) rfl rfl rfl Try.call39) (C_strings_IndexByte [95, 43, 45, 35] (x1.toNat : Int) _ ) (fun a w hf hs' => ?_)
              replace hs := hs.call hs'; clear hs'
              refine S.val hf hs (v := .bool (decide ((byteAt [95, 43, 45, 35] (x1.toNat : Int)) < 0))) rfl rfl rfl (V.pure rfl) (fun a hf => ?_)
              refine S.val hf hs (v := .bool (decide ((byteAt [95, 43, 45, 35] (x1.toNat : Int)) < 0))) rfl rfl rfl (V.pure rfl) (fun a hf => ?_)
              refine R.nil ?_
              refine X.then_ ?_
              exact ⟨(decide ((byteAt [95, 43, 45, 35] (x1.toNat : Int)) < 0)), h, ((((hf.nil.cons (hf.get 39 _ rfl)).cons (hf.get 7 _ rfl)).cons (hf.get 6 _ rfl)).cons (hf.get 0 _ rfl)), hs⟩
            · replace h := h.2 hc
              refine S.val hf hs (v := .int .u8 (x1.toNat : Int)) rfl rfl rfl (V.pure rfl) (fun a hf => ?_)
              refine S.val hf hs (v := .bool (decide ((x1.toNat : Int) > 57))) rfl rfl rfl (V.pure rfl) (fun a hf => ?_)
              refine S.val hf hs (v := .bool (decide ((x1.toNat : Int) > 57))) rfl rfl rfl (V.pure rfl) (fun a hf => ?_)
              refine S.val hf hs (v := .bool (decide ((x1.toNat : Int) > 57))) rfl rfl rfl (V.pure rfl) (fun a hf => ?_)
              refine S.split hf hs (b := decide ((x1.toNat : Int) > 57)) rfl rfl rfl (V.pure rfl) (fun hc a hf => ?_) (fun hc a hf => ?_)
              · replace h := h.1 hc
                refine S.val hf hs (v := .int .u8 (x1.toNat : Int)) rfl rfl rfl (V.pure rfl) (fun a hf => ?_)
                refine S.callv hf rfl rfl rfl (call_fn (vs := [.string (ba [95, 43, 45, 35]), .int .u8 (x1.toNat : Int)]) rfl rfl rfl Try.call39) (C_strings_IndexByte [95, 43, 45, 35] (x1.toNat : Int) _ ) (fun a w hf hs' => ?_)
                replace hs := hs.call hs'; clear hs'
                refine S.val hf hs (v := .bool (decide ((byteAt [95, 43, 45, 35] (x1.toNat : Int)) < 0))) rfl rfl rfl (V.pure rfl) (fun a hf => ?_)
                refine S.val hf hs (v := .bool (decide ((byteAt [95, 43, 45, 35] (x1.toNat : Int)) < 0))) rfl rfl rfl (V.pure rfl) (fun a hf => ?_)
                refine R.nil ?_
                refine X.then_ ?_
                exact ⟨(decide ((byteAt [95, 43, 45, 35] (x1.toNat : Int)) < 0)), h, ((((hf.nil.cons (hf.get 39 _ rfl)).cons (hf.get 7 _ rfl)).cons (hf.get 6 _ rfl)).cons (hf.get 0 _ rfl)), hs⟩
              · replace h := h.2 hc
                refine S.skip hf rfl rfl rfl (fun a hf => ?_)
                refine S.skip hf rfl rfl rfl (fun a hf => ?_)
                refine S.skip hf rfl rfl rfl (fun a hf => ?_)
                refine S.val hf hs (v := .bool false) rfl rfl rfl (V.pure rfl) (fun a hf => ?_)
                refine R.nil ?_
                refine X.then_ ?_
                exact ⟨false, h, ((((hf.nil.cons (hf.get 39 _ rfl)).cons (hf.get 7 _ rfl)).cons (hf.get 6 _ rfl)).cons (hf.get 0 _ rfl)), hs⟩
          · replace h := h.2 hc
            refine S.val hf hs (v := .int .u8 (x1.toNat : Int)) rfl rfl rfl (V.pure rfl) (fun a hf => ?_)
            refine S.val hf hs (v := .bool (decide ((x1.toNat : Int) > 90))) rfl rfl rfl (V.pure rfl) (fun a hf => ?_)
            refine S.val hf hs (v := .bool (decide ((x1.toNat : Int) > 90))) rfl rfl rfl (V.pure rfl) (fun a hf => ?_)
            refine S.val hf hs (v := .bool (decide ((x1.toNat : Int) > 90))) rfl rfl rfl (V.pure rfl) (fun a hf => ?_)
            refine S.split hf hs (b := decide ((x1.toNat : Int) > 90)) rfl rfl rfl (V.pure rfl) (fun hc a hf => ?_) (fun hc a hf => ?_)
            · replace h := h.1 hc
              refine S.val hf hs (v := .int .u8 (x1.toNat : Int)) rfl rfl rfl (V.pure rfl) (fun a hf => ?_)
              refine S.val hf hs (v := .bool (decide ((x1.toNat : Int) < 48))) rfl rfl rfl (V.pure rfl) (fun a hf => ?_)
              refine S.split hf hs (b := decide ((x1.toNat : Int) < 48)) rfl rfl rfl (V.pure rfl) (fun hc a hf => ?_) (fun hc a hf => ?_)
              · replace h := h.1 hc
                refine S.skip hf rfl rfl rfl (fun a hf => ?_)
                refine S.skip hf rfl rfl rfl (fun a hf => ?_)
                refine S.val hf hs (v := .bool true) rfl rfl rfl (V.pure rfl) (fun a hf => ?_)
                refine S.val hf hs (v := .bool true) rfl rfl rfl (V.pure rfl) (fun a hf => ?_)
                refine S.val hf hs (v := .bool true) rfl rfl rfl (V.pure rfl) (fun a hf => ?_)
                refine S.val hf hs (v := .int .u8 (x1.toNat : Int)) rfl rfl rfl (V.pure rfl) (fun a hf => ?_)
                refine S.callv hf rfl rfl rfl (call_fn (vs := [.string (ba [95, 43, 45, 35]), .int .u8 (x1.toNat : Int)]) rfl rfl rfl Try.call39) (C_strings_IndexByte [95, 43, 45, 35] (x1.toNat : Int) _ ) (fun a w hf hs' => ?_)
                replace hs := hs.call hs'; clear hs'
                refine S.val hf hs (v := .bool (decide ((byteAt [95, 43, 45, 35] (x1.toNat : Int)) < 0))) rfl rfl rfl (V.pure rfl) (fun a hf => ?_)
                refine S.val hf hs (v := .bool (decide ((byteAt [95, 43, 45, 35] (x1.toNat : Int)) < 0))) rfl rfl rfl (V.pure rfl) (fun a hf => ?_)
                refine R.nil ?_
                refine X.then_ ?_
                exact ⟨(decide ((byteAt [95, 43, 45, 35] (x1.toNat : Int)) < 0)), h, ((((hf.nil.cons (hf.get 39 _ rfl)).cons (hf.get 7 _ rfl)).cons (hf.get 6 _ rfl)).cons (hf.get 0 _ rfl)), hs⟩
              · replace h := h.2 hc
                refine S.val hf hs (v := .int .u8 (x1.toNat : Int)) rfl rfl rfl (V.pure rfl) (fun a hf => ?_)
                refine S.val hf hs (v := .bool (decide ((x1.toNat : Int) > 57))) rfl rfl rfl (V.pure rfl) (fun a hf => ?_)
                refine S.val hf hs (v := .bool (decide ((x1.toNat : Int) > 57))) rfl rfl rfl (V.pure rfl) (fun a hf => ?_)
                refine S.val hf hs (v := .bool (decide ((x1.toNat : Int) > 57))) rfl rfl rfl (V.pure rfl) (fun a hf => ?_)
                refine S.split hf hs (b := decide ((x1.toNat : Int) > 57)) rfl rfl rfl (V.pure rfl) (fun hc a hf => ?_) (fun hc a hf => ?_)
                · replace h := h.1 hc
                  refine S.val hf hs (v := .int .u8 (x1.toNat : Int)) rfl rfl rfl (V.pure rfl) (fun a hf => ?_)
                  refine S.callv hf rfl rfl rfl (call_fn (vs := [.string (ba [95, 43, 45, 35]), .int .u8 (x1.toNat : Int)]) rfl rfl rfl Try.call39) (C_strings_IndexByte [95, 43, 45, 35] (x1.toNat : Int) _ ) (fun a w hf hs' => ?_)
                  replace hs := hs.call hs'; clear hs'
                  refine S.val hf hs (v := .bool (decide ((byteAt [95, 43, 45, 35] (x1.toNat : Int)) < 0))) rfl rfl rfl (V.pure rfl) (fun a hf => ?_)
                  refine S.val hf hs (v := .bool (decide ((byteAt [95, 43, 45, 35] (x1.toNat : Int)) < 0))) rfl rfl rfl (V.pure rfl) (fun a hf => ?_)
                  refine R.nil ?_
                  refine X.then_ ?_
                  exact ⟨(decide ((byteAt [95, 43, 45, 35] (x1.toNat : Int)) < 0)), h, ((((hf.nil.cons (hf.get 39 _ rfl)).cons (hf.get 7 _ rfl)).cons (hf.get 6 _ rfl)).cons (hf.get 0 _ rfl)), hs⟩
                · replace h := h.2 hc
                  refine S.skip hf rfl rfl rfl (fun a hf => ?_)
                  refine S.skip hf rfl rfl rfl (fun a hf => ?_)
                  refine S.skip hf rfl rfl rfl (fun a hf => ?_)
                  refine S.val hf hs (v := .bool false) rfl rfl rfl (V.pure rfl) (fun a hf => ?_)
                  refine R.nil ?_
                  refine X.then_ ?_
                  exact ⟨false, h, ((((hf.nil.cons (hf.get 39 _ rfl)).cons (hf.get 7 _ rfl)).cons (hf.get 6 _ rfl)).cons (hf.get 0 _ rfl)), hs⟩
            · replace h := h.2 hc
              refine S.skip hf rfl rfl rfl (fun a hf => ?_)
              refine S.skip hf rfl rfl rfl (fun a hf => ?_)
              refine S.skip hf rfl rfl rfl (fun a hf => ?_)
              refine S.skip hf rfl rfl rfl (fun a hf => ?_)
              refine S.skip hf rfl rfl rfl (fun a hf => ?_)
              refine S.skip hf rfl rfl rfl (fun a hf => ?_)
              refine S.val hf hs (v := .bool false) rfl rfl rfl (V.pure rfl) (fun a hf => ?_)
              refine S.val hf hs (v := .bool false) rfl rfl rfl (V.pure rfl) (fun a hf => ?_)
              refine S.skip hf rfl rfl rfl (fun a hf => ?_)
              refine S.skip hf rfl rfl rfl (fun a hf => ?_)
              refine S.skip hf rfl rfl rfl (fun a hf => ?_)
              refine S.val hf hs (v := .bool false) rfl rfl rfl (V.pure rfl) (fun a hf => ?_)
              refine R.nil ?_
              refine X.then_ ?_
              exact ⟨false, h, ((((hf.nil.cons (hf.get 39 _ rfl)).cons (hf.get 7 _ rfl)).cons (hf.get 6 _ rfl)).cons (hf.get 0 _ rfl)), hs⟩
        · replace h := h.2 hc
          refine S.skip hf rfl rfl rfl (fun a hf => ?_)
          refine S.skip hf rfl rfl rfl (fun a hf => ?_)
          refine S.skip hf rfl rfl rfl (fun a hf => ?_)
          refine S.skip hf rfl rfl rfl (fun a hf => ?_)
          refine S.skip hf rfl rfl rfl (fun a hf => ?_)
          refine S.skip hf rfl rfl rfl (fun a hf => ?_)
          refine S.val hf hs (v := .bool false) rfl rfl rfl (V.pure rfl) (fun a hf => ?_)
          refine S.val hf hs (v := .bool false) rfl rfl rfl (V.pure rfl) (fun a hf => ?_)
          refine S.skip hf rfl rfl rfl (fun a hf => ?_)
          refine S.skip hf rfl rfl rfl (fun a hf => ?_)
          refine S.skip hf rfl rfl rfl (fun a hf => ?_)
          refine S.skip hf rfl rfl rfl (fun a hf => ?_)
          refine S.skip hf rfl rfl rfl (fun a hf => ?_)
          refine S.skip hf rfl rfl rfl (fun a hf => ?_)
          refine S.val hf hs (v := .bool false) rfl rfl rfl (V.pure rfl) (fun a hf => ?_)
          refine S.val hf hs (v := .bool false) rfl rfl rfl (V.pure rfl) (fun a hf => ?_)
          refine S.skip hf rfl rfl rfl (fun a hf => ?_)
          refine S.skip hf rfl rfl rfl (fun a hf => ?_)
          refine S.skip hf rfl rfl rfl (fun a hf => ?_)
          refine S.val hf hs (v := .bool false) rfl rfl rfl (V.pure rfl) (fun a hf => ?_)
          refine R.nil ?_
          refine X.then_ ?_
          exact ⟨false, h, ((((hf.nil.cons (hf.get 39 _ rfl)).cons (hf.get 7 _ rfl)).cons (hf.get 6 _ rfl)).cons (hf.get 0 _ rfl)), hs⟩
  · replace h := h.2 hc
    refine wp_exit ?_
    refine X.then_exit ?_
    refine X.then_exit ?_
    refine X.blk_exit ?_
    refine X.then_ ?_
    refine wp_seq ?_
    refine R.list ?_
    refine S.val hf hs (v := .string (ba s_)) rfl rfl rfl (V.pure rfl) (fun a hf => ?_)
    refine S.val hf hs (v := .int .i64 (s_.length : Int)) rfl rfl rfl (V.lenStr rfl rfl Try.runUnderlying9) (fun a hf => ?_)
    refine S.callv hf rfl rfl rfl (call_fn (vs := [.int .i64 (s_.length : Int), .int .i64 1, .int .i64 40]) rfl rfl rfl Try.call20) (C_ref10_within (s_.length : Int) 1 40 _ ) (fun a w hf hs' => ?_)
    replace hs := hs.call hs'; clear hs'
    refine S.val hf hs (v := .bool (within (s_.length : Int) 1 40)) rfl rfl rfl (V.pure rfl) (fun a hf => ?_)
    refine R.nil ?_
    refine X.then_ ?_
    refine wp_ret ?_
    exact L.ret hf (run_results1 Try.results36 (ResIs.tmp hf rfl)) ⟨(within (s_.length : Int) 1 40), rfl, h, hs.nil⟩

set_option linter.unusedVariables false
def M_mount_isOrder_k2 (Q : Bool → Prop) (xk1 : Int) (l2 : List Bool) (next1 : List Bool → Prop) (c1 : Bool) : Prop :=
  cnd c1 (Q false) (idx l2 xk1 fun x1 => next1 (l2.set xk1.toNat true))
def M_mount_isOrder_L1 (n : Int) (Q : Bool → Prop) (k1 : Nat) (xk1 : Int) (l2 : List Bool) (next1 : List Bool → Prop) : Prop :=
  cnd (!(within xk1 0 (w64 (n - 1)))) (M_mount_isOrder_k2 Q xk1 l2 next1 true) (idx l2 xk1 fun x2 => M_mount_isOrder_k2 Q xk1 l2 next1 x2)
def M_mount_isOrder (l : (List Int)) (n : Int) (Q : Bool → Prop) : Prop :=
  must (0 ≤ n ∧ n * 1 ≤ 281474976710656) (forIn' (fun k x (s : List Bool) next => M_mount_isOrder_L1 n Q k x s (fun l2 => next l2)) (fun (s : List Bool) => (fun (l2 : List Bool) => Q ((l.length : Int) == n)) s) l 0 (List.replicate n.toNat false))
set_option maxHeartbeats 1000000 in
theorem R_mount_isOrder (l : (List Int)) (n : Int) (w0 : World) (lA : Option Addr) (lC : Nat) (hv_l : View w0 (old w0 none_) lA lC l) (Q : Bool → Prop) (h : M_mount_isOrder l n Q) :
    Ret Try.prog 25 #[.slice lA l.length lC, .int .i64 n] w0 fun v w' => ∃ (r0 : Bool), v = .bool r0 ∧ Q r0 ∧ Sat w0 none_ [] w' := by
  refine fn_enter Try.func25 rfl Try.ntmps25 rfl (fs := [(0, .slice lA l.length lC), (1, .int .i64 n)]) rfl (fun a hf => ?_)
  have hs := Sat.start w0 none_
  unfold M_mount_isOrder at h
  refine wp_seq ?_
  refine R.list ?_
  refine S.val hf hs (v := .bool false) rfl rfl rfl (V.pure rfl) (fun a hf => ?_)
  refine R.nil ?_
  refine X.then_ ?_
  refine wp_seq ?_
  refine R.list ?_
  refine S.val hf hs (v := .int .i64 n) rfl rfl rfl (V.pure rfl) (fun a hf => ?_)
  obtain ⟨hmk, h⟩ := h
  refine S.make hf hs rfl rfl rfl (α := Bool) false (z := n) (N := n.toNat) rfl rfl rfl Try.underlying29 info4 hmk rfl (by have := hmk.2; omega) (fun A1 a w hf hs => ?_)
  refine S.val hf hs (v := .slice A1 (List.replicate n.toNat false).length n.toNat) rfl rfl rfl (V.pure rfl) (fun a hf => ?_)
  refine R.nil ?_
  refine X.then_ ?_
  refine wp_seq ?_
  refine wp_seq ?_
  refine R.list ?_
  refine S.val hf hs (v := .slice lA l.length lC) rfl rfl rfl (V.pure rfl) (fun a hf => ?_)
  refine S.val hf hs (v := .int .i64 (l.length : Int)) rfl rfl rfl (V.len rfl rfl Try.runUnderlying22) (fun a hf => ?_)
  refine S.val hf hs (v := .int .i64 0) rfl rfl rfl (V.pure rfl) (fun a hf => ?_)
  refine R.nil ?_
  refine X.then_ ?_
  refine wp_block ?_
  have hlenk1 := hv_l.len64
  refine C.range (fun (ll : List Int) a w => ∃ (k1 : Nat) (l2 : List Bool) (l2A : Option Addr) (l2C : Nat), l.drop k1 = ll ∧ k1 + ll.length = l.length ∧ forIn' (fun k x (s : List Bool) next => M_mount_isOrder_L1 n Q k x s (fun l2 => next l2)) (fun (s : List Bool) => (fun (l2 : List Bool) => Q ((l.length : Int) == n)) s) ll k1 l2 ∧ FrOk 35 [(12, .int .i64 (k1 : Int)), (0, .slice lA l.length lC), (1, .int .i64 n), (5, .slice l2A l2.length l2C), (10, .slice lA l.length lC), (11, .int .i64 (l.length : Int))] a ∧ Sat w0 none_ [hown 4 l2A l2C l2] w) l ⟨0, (List.replicate n.toNat false), A1, n.toNat, rfl, Nat.zero_add _, h, ((((((hf.nil.cons (hf.get 11 _ rfl)).cons (hf.get 10 _ rfl)).cons (hf.get 5 _ rfl)).cons (hf.get 1 _ rfl)).cons (hf.get 0 _ rfl)).cons (hf.get 12 _ rfl)), hs⟩ ?_
  clear h hf hs
  rintro llk1 a w ⟨k1, l2, l2A, l2C, hlk1, hkk1, h, hf, hs⟩
  cases llk1 with
  | nil =>
    have hc := range_done hkk1
    replace h : (fun (l2 : List Bool) => Q ((l.length : Int) == n)) l2 := h
    refine wp_seq ?_
    refine R.list ?_
    refine S.val hf hs (v := .bool false) rfl rfl rfl (V.cmp false rfl rfl rfl rfl hc) (fun a hf => ?_)
    refine R.nil ?_
    refine X.then_ ?_
    refine wp_seq ?_
    refine C.no hf rfl ?_
    refine wp_exit ?_
    refine X.then_exit ?_
    refine X.then_exit ?_
    refine X.blk_exit ?_
    refine X.then_ ?_
    refine wp_seq ?_
    refine R.list ?_
    refine S.val hf hs (v := .slice lA l.length lC) rfl rfl rfl (V.pure rfl) (fun a hf => ?_)
    refine S.val hf hs (v := .int .i64 (l.length : Int)) rfl rfl rfl (V.len rfl rfl Try.runUnderlying22) (fun a hf => ?_)
    refine S.val hf hs (v := .int .i64 n) rfl rfl rfl (V.pure rfl) (fun a hf => ?_)
    refine S.val hf hs (v := .bool ((l.length : Int) == n)) rfl rfl rfl (V.pure rfl) (fun a hf => ?_)
    refine S.val hf hs (v := .bool ((l.length : Int) == n)) rfl rfl rfl (V.pure rfl) (fun a hf => ?_)
    refine R.nil ?_
    refine X.then_ ?_
    refine wp_ret ?_
    exact L.ret hf (run_results1 Try.results25 (ResIs.tmp hf rfl)) ⟨((l.length : Int) == n), rfl, h, hs.nil⟩
  | cons xk1 llk1 =>
    have hltk1 := range_lt hkk1; have hc := range_go hkk1; have hxk1 := range_get hlk1
    obtain ⟨next1, hnext1⟩ : ∃ X : List Bool → Prop, X = (fun l2 => forIn' (fun k x (s : List Bool) next => M_mount_isOrder_L1 n Q k x s (fun l2 => next l2)) (fun (s : List Bool) => (fun (l2 : List Bool) => Q ((l.length : Int) == n)) s) llk1 (k1 + 1) l2) := ⟨_, rfl⟩
    replace h : M_mount_isOrder_L1 n Q k1 xk1 l2 next1 := by rw [hnext1]; exact h
    unfold M_mount_isOrder_L1 at h
    refine wp_seq ?_
    refine R.list ?_
    refine S.val hf hs (v := .bool true) rfl rfl rfl (V.cmp true rfl rfl rfl rfl hc) (fun a hf => ?_)
    refine R.nil ?_
    refine X.then_ ?_
    refine wp_seq ?_
    refine C.yes hf rfl ?_
    refine wp_skip ?_
    refine X.then_ ?_
    refine wp_seq ?_
    refine wp_block ?_
    refine wp_seq ?_
    refine R.list ?_
    refine S.val hf hs (v := elemPtr lA (k1 * 1)) rfl rfl rfl (V.index rfl rfl rfl Try.runUnderlying22 Try.sizeOf3 (hv_l.some_ (lt_of_get hxk1)) (Int.natCast_nonneg _) (lt_of_get hxk1) rfl) (fun a hf => ?_)
    refine S.val hf hs (v := .int .i64 xk1) rfl rfl rfl (V.loadEl (off := 0) (Ag.args _ _ _) (hv_l.flat hxk1) rfl rfl rfl Try.isAgg3 Try.sizeOf3 rfl rfl) (fun a hf => ?_)
    refine S.val hf hs (v := .int .i64 xk1) rfl rfl rfl (V.pure rfl) (fun a hf => ?_)
    refine R.nil ?_
    refine X.then_ ?_
    refine wp_seq ?_
    refine wp_seq ?_
    refine C.cut (J := fun a w => ∃ (c1 : Bool), M_mount_isOrder_k2 Q xk1 l2 next1 c1 ∧ FrOk 35 [(0, .slice lA l.length lC), (1, .int .i64 n), (5, .slice l2A l2.length l2C), (7, .int .i64 xk1), (10, .slice lA l.length lC), (11, .int .i64 (l.length : Int)), (12, .int .i64 (k1 : Int)), (26, .bool c1)] a ∧ Sat w0 none_ [hown 4 l2A l2C l2] w) ?_ ?_
    · rintro a w ⟨c1, h, hf, hs⟩
      unfold M_mount_isOrder_k2 at h
      refine C.cond hf (b := c1) rfl (fun hc => ?_) (fun hc => ?_)
      · replace h := h.1 hc
        refine wp_seq ?_
        refine R.list ?_
        refine S.val hf hs (v := .bool false) rfl rfl rfl (V.pure rfl) (fun a hf => ?_)
        refine R.nil ?_
        refine X.then_ ?_
        refine wp_ret ?_
        refine X.then_ret ?_
        refine X.blk_ret ?_
        refine X.then_ret ?_
        refine X.then_ret ?_
        refine X.blk_ret ?_
        refine X.then_ret ?_
        exact L.ret hf (run_results1 Try.results25 (ResIs.tmp hf rfl)) ⟨false, rfl, h, hs.nil⟩
      · replace h := h.2 hc
        refine wp_skip ?_
        refine X.then_ ?_
        refine R.list ?_
        refine S.val hf hs (v := .slice l2A l2.length l2C) rfl rfl rfl (V.pure rfl) (fun a hf => ?_)
        refine S.val hf hs (v := .int .i64 xk1) rfl rfl rfl (V.pure rfl) (fun a hf => ?_)
        obtain ⟨h0x1, x1, hx1, h⟩ := h
        refine S.val hf hs (v := elemPtr l2A (xk1.toNat * 1)) rfl rfl rfl (V.index rfl rfl rfl Try.runUnderlying29 Try.sizeOf4 (hs.ownSome 0 rfl (lt_of_get hx1)) h0x1 (lt_of_get hx1) rfl) (fun a hf => ?_)
        refine S.storeOwn (off := 0) 0 hf hs rfl rfl true [.bool true] rfl hx1 rfl rfl rfl rfl rfl Try.sizeOf4 rfl (by decide) rfl rfl (fun a w hf hs => ?_)
        replace hf := hf.tell 5 (v := .slice l2A (l2.set xk1.toNat true).length l2C) ((hf.get 5 (.slice l2A l2.length l2C) rfl).trans (congrArg (fun n => Value.slice l2A n l2C) List.length_set.symm))
        replace hf := hf.tell 27 (v := .slice l2A (l2.set xk1.toNat true).length l2C) ((hf.get 27 (.slice l2A l2.length l2C) rfl).trans (congrArg (fun n => Value.slice l2A n l2C) List.length_set.symm))
        refine R.nil ?_
        refine X.blk ?_
        refine X.then_ ?_
        refine R.list ?_
        refine S.val hf hs (v := .int .i64 ((k1 + 1 : Nat) : Int)) rfl rfl rfl (V.incr rfl rfl rfl hltk1 hlenk1) (fun a hf => ?_)
        refine S.val hf hs (v := .int .i64 ((k1 + 1 : Nat) : Int)) rfl rfl rfl (V.pure rfl) (fun a hf => ?_)
        refine R.nil ?_
        refine X.then_ ?_
        exact ⟨xk1, llk1, rfl, k1 + 1, (l2.set xk1.toNat true), l2A, l2C, range_drop hlk1, range_len hkk1, (by rw [hnext1] at h; exact h), ((((((hf.nil.cons (hf.get 11 _ rfl)).cons (hf.get 10 _ rfl)).cons (hf.get 5 _ rfl)).cons (hf.get 1 _ rfl)).cons (hf.get 0 _ rfl)).cons (hf.get 12 _ rfl)), hs⟩
    · skip
      refine R.list ?_
      refine S.val hf hs (v := .int .i64 xk1) rfl rfl rfl (V.pure rfl) (fun a hf => ?_)
      refine S.val hf hs (v := .int .i64 n) rfl rfl rfl (V.pure rfl) (fun a hf => ?_)
      refine S.val hf hs (v := .int .i64 (w64 (n - 1))) rfl rfl rfl (V.pure rfl) (fun a hf => ?_)
      refine S.callv hf rfl rfl rfl (call_fn (vs := [.int .i64 xk1, .int .i64 0, .int .i64 (w64 (n - 1))]) rfl rfl rfl Try.call17) (C_mount_within xk1 0 (w64 (n - 1)) _ ) (fun a w hf hs' => ?_)
      replace hs := hs.call hs'; clear hs'
      refine S.val hf hs (v := .bool (!(within xk1 0 (w64 (n - 1))))) rfl rfl rfl (V.pure rfl) (fun a hf => ?_)
      refine S.split hf hs (b := !(within xk1 0 (w64 (n - 1)))) rfl rfl rfl (V.pure rfl) (fun hc a hf => ?_) (fun hc a hf => ?_)
      · replace h := h.1 hc
        refine S.skip hf rfl rfl rfl (fun a hf => ?_)
        refine S.skip hf rfl rfl rfl (fun a hf => ?_)
        refine S.skip hf rfl rfl rfl (fun a hf => ?_)
        refine S.skip hf rfl rfl rfl (fun a hf => ?_)
        refine S.val hf hs (v := .bool true) rfl rfl rfl (V.pure rfl) (fun a hf => ?_)
        refine R.nil ?_
        refine X.then_ ?_
        exact ⟨true, h, ((((((((hf.nil.cons (hf.get 26 _ rfl)).cons (hf.get 12 _ rfl)).cons (hf.get 11 _ rfl)).cons (hf.get 10 _ rfl)).cons (hf.get 7 _ rfl)).cons (hf.get 5 _ rfl)).cons (hf.get 1 _ rfl)).cons (hf.get 0 _ rfl)), hs⟩
      · replace h := h.2 hc
        refine S.val hf hs (v := .slice l2A l2.length l2C) rfl rfl rfl (V.pure rfl) (fun a hf => ?_)
        refine S.val hf hs (v := .int .i64 xk1) rfl rfl rfl (V.pure rfl) (fun a hf => ?_)
        obtain ⟨h0x2, x2, hx2, h⟩ := h
        refine S.val hf hs (v := elemPtr l2A (xk1.toNat * 1)) rfl rfl rfl (V.index rfl rfl rfl Try.runUnderlying29 Try.sizeOf4 (hs.ownSome 0 rfl (lt_of_get hx2)) h0x2 (lt_of_get hx2) rfl) (fun a hf => ?_)
        refine S.val hf hs (v := .bool x2) rfl rfl rfl (V.loadOwn (off := 0) 0 rfl hx2 rfl rfl rfl Try.isAgg4 Try.sizeOf4 rfl rfl) (fun a hf => ?_)
        refine S.val hf hs (v := .bool x2) rfl rfl rfl (V.pure rfl) (fun a hf => ?_)
        refine R.nil ?_
        refine X.then_ ?_
        exact ⟨x2, h, ((((((((hf.nil.cons (hf.get 26 _ rfl)).cons (hf.get 12 _ rfl)).cons (hf.get 11 _ rfl)).cons (hf.get 10 _ rfl)).cons (hf.get 7 _ rfl)).cons (hf.get 5 _ rfl)).cons (hf.get 1 _ rfl)).cons (hf.get 0 _ rfl)), hs⟩

set_option linter.unusedVariables false
def M_ref10_IsOrder_k2 (Q : Bool → Prop) (xk1 : Int) (l2 : List Bool) (next1 : List Bool → Prop) (c1 : Bool) : Prop :=
  cnd c1 (Q false) (idx l2 xk1 fun x1 => next1 (l2.set xk1.toNat true))
def M_ref10_IsOrder_L1 (n : Int) (Q : Bool → Prop) (k1 : Nat) (xk1 : Int) (l2 : List Bool) (next1 : List Bool → Prop) : Prop :=
  cnd (!(within xk1 0 (w64 (n - 1)))) (M_ref10_IsOrder_k2 Q xk1 l2 next1 true) (idx l2 xk1 fun x2 => M_ref10_IsOrder_k2 Q xk1 l2 next1 x2)
def M_ref10_IsOrder (order : (List Int)) (n : Int) (Q : Bool → Prop) : Prop :=
  must (0 ≤ n ∧ n * 1 ≤ 281474976710656) (forIn' (fun k x (s : List Bool) next => M_ref10_IsOrder_L1 n Q k x s (fun l2 => next l2)) (fun (s : List Bool) => (fun (l2 : List Bool) => Q ((order.length : Int) == n)) s) order 0 (List.replicate n.toNat false))
set_option maxHeartbeats 1000000 in
theorem R_ref10_IsOrder (order : (List Int)) (n : Int) (w0 : World) (orderA : Option Addr) (orderC : Nat) (hv_order : View w0 (old w0 none_) orderA orderC order) (Q : Bool → Prop) (h : M_ref10_IsOrder order n Q) :
    Ret Try.prog 28 #[.slice orderA order.length orderC, .int .i64 n] w0 fun v w' => ∃ (r0 : Bool), v = .bool r0 ∧ Q r0 ∧ Sat w0 none_ [] w' := by
  refine fn_enter Try.func28 rfl Try.ntmps28 rfl (fs := [(0, .slice orderA order.length orderC), (1, .int .i64 n)]) rfl (fun a hf => ?_)
  have hs := Sat.start w0 none_
  unfold M_ref10_IsOrder at h
  refine wp_seq ?_
  refine R.list ?_
  refine S.val hf hs (v := .bool false) rfl rfl rfl (V.pure rfl) (fun a hf => ?_)
  refine R.nil ?_
  refine X.then_ ?_
  refine wp_seq ?_
  refine R.list ?_
  refine S.val hf hs (v := .int .i64 n) rfl rfl rfl (V.pure rfl) (fun a hf => ?_)
  obtain ⟨hmk, h⟩ := h
  refine S.make hf hs rfl rfl rfl (α := Bool) false (z := n) (N := n.toNat) rfl rfl rfl Try.underlying29 info4 hmk rfl (by have := hmk.2; omega) (fun A1 a w hf hs => ?_)
  refine S.val hf hs (v := .slice A1 (List.replicate n.toNat false).length n.toNat) rfl rfl rfl (V.pure rfl) (fun a hf => ?_)
  refine R.nil ?_
  refine X.then_ ?_
  refine wp_seq ?_
  refine wp_seq ?_
  refine R.list ?_
  refine S.val hf hs (v := .slice orderA order.length orderC) rfl rfl rfl (V.pure rfl) (fun a hf => ?_)
  refine S.val hf hs (v := .int .i64 (order.length : Int)) rfl rfl rfl (V.len rfl rfl Try.runUnderlying22) (fun a hf => ?_)
  refine S.val hf hs (v := .int .i64 0) rfl rfl rfl (V.pure rfl) (fun a hf => ?_)
  refine R.nil ?_
  refine X.then_ ?_
  refine wp_block ?_
  have hlenk1 := hv_order.len64
  refine C.range (fun (ll : List Int) a w => ∃ (k1 : Nat) (l2 : List Bool) (l2A : Option Addr) (l2C : Nat), order.drop k1 = ll ∧ k1 + ll.length = order.length ∧ forIn' (fun k x (s : List Bool) next => M_ref10_IsOrder_L1 n Q k x s (fun l2 => next l2)) (fun (s : List Bool) => (fun (l2 : List Bool) => Q ((order.length : Int) == n)) s) ll k1 l2 ∧ FrOk 35 [(12, .int .i64 (k1 : Int)), (0, .slice orderA order.length orderC), (1, .int .i64 n), (5, .slice l2A l2.length l2C), (10, .slice orderA order.length orderC), (11, .int .i64 (order.length : Int))] a ∧ Sat w0 none_ [hown 4 l2A l2C l2] w) order ⟨0, (List.replicate n.toNat false), A1, n.toNat, rfl, Nat.zero_add _, h, ((((((hf.nil.cons (hf.get 11 _ rfl)).cons (hf.get 10 _ rfl)).cons (hf.get 5 _ rfl)).cons (hf.get 1 _ rfl)).cons (hf.get 0 _ rfl)).cons (hf.get 12 _ rfl)), hs⟩ ?_
  clear h hf hs
  rintro llk1 a w ⟨k1, l2, l2A, l2C, hlk1, hkk1, h, hf, hs⟩
  cases llk1 with
  | nil =>
    have hc := range_done hkk1
    replace h : (fun (l2 : List Bool) => Q ((order.length : Int) == n)) l2 := h
    refine wp_seq ?_
    refine R.list ?_
    refine S.val hf hs (v := .bool false) rfl rfl rfl (V.cmp false rfl rfl rfl rfl hc) (fun a hf => ?_)
    refine R.nil ?_
    refine X.then_ ?_
    refine wp_seq ?_
    refine C.no hf rfl ?_
    refine wp_exit ?_
    refine X.then_exit ?_
    refine X.then_exit ?_
    refine X.blk_exit ?_
    refine X.then_ ?_
    refine wp_seq ?_
    refine R.list ?_
    refine S.val hf hs (v := .slice orderA order.length orderC) rfl rfl rfl (V.pure rfl) (fun a hf => ?_)
    refine S.val hf hs (v := .int .i64 (order.length : Int)) rfl rfl rfl (V.len rfl rfl Try.runUnderlying22) (fun a hf => ?_)
    refine S.val hf hs (v := .int .i64 n) rfl rfl rfl (V.pure rfl) (fun a hf => ?_)
    refine S.val hf hs (v := .bool ((order.length : Int) == n)) rfl rfl rfl (V.pure rfl) (fun a hf => ?_)
    refine S.val hf hs (v := .bool ((order.length : Int) == n)) rfl rfl rfl (V.pure rfl) (fun a hf => ?_)
    refine R.nil ?_
    refine X.then_ ?_
    refine wp_ret ?_
    exact L.ret hf (run_results1 Try.results28 (ResIs.tmp hf rfl)) ⟨((order.length : Int) == n), rfl, h, hs.nil⟩
  | cons xk1 llk1 =>
    have hltk1 := range_lt hkk1; have hc := range_go hkk1; have hxk1 := range_get hlk1
    obtain ⟨next1, hnext1⟩ : ∃ X : List Bool → Prop, X = (fun l2 => forIn' (fun k x (s : List Bool) next => M_ref10_IsOrder_L1 n Q k x s (fun l2 => next l2)) (fun (s : List Bool) => (fun (l2 : List Bool) => Q ((order.length : Int) == n)) s) llk1 (k1 + 1) l2) := ⟨_, rfl⟩
    replace h : M_ref10_IsOrder_L1 n Q k1 xk1 l2 next1 := by rw [hnext1]; exact h
    unfold M_ref10_IsOrder_L1 at h
    refine wp_seq ?_
    refine R.list ?_
    refine S.val hf hs (v := .bool true) rfl rfl rfl (V.cmp true rfl rfl rfl rfl hc) (fun a hf => ?_)
    refine R.nil ?_
    refine X.then_ ?_
    refine wp_seq ?_
    refine C.yes hf rfl ?_
    refine wp_skip ?_
    refine X.then_ ?_
    refine wp_seq ?_
    refine wp_block ?_
    refine wp_seq ?_
    refine R.list ?_
    refine S.val hf hs (v := elemPtr orderA (k1 * 1)) rfl rfl rfl (V.index rfl rfl rfl Try.runUnderlying22 Try.sizeOf3 (hv_order.some_ (lt_of_get hxk1)) (Int.natCast_nonneg _) (lt_of_get hxk1) rfl) (fun a hf => ?_)
    refine S.val hf hs (v := .int .i64 xk1) rfl rfl rfl (V.loadEl (off := 0) (Ag.args _ _ _) (hv_order.flat hxk1) rfl rfl rfl Try.isAgg3 Try.sizeOf3 rfl rfl) (fun a hf => ?_)
    refine S.val hf hs (v := .int .i64 xk1) rfl rfl rfl (V.pure rfl) (fun a hf => ?_)
    refine R.nil ?_
    refine X.then_ ?_
    refine wp_seq ?_
    refine wp_seq ?_
    refine C.cut (J := fun a w => ∃ (c1 : Bool), M_ref10_IsOrder_k2 Q xk1 l2 next1 c1 ∧ FrOk 35 [(0, .slice orderA order.length orderC), (1, .int .i64 n), (5, .slice l2A l2.length l2C), (7, .int .i64 xk1), (10, .slice orderA order.length orderC), (11, .int .i64 (order.length : Int)), (12, .int .i64 (k1 : Int)), (26, .bool c1)] a ∧ Sat w0 none_ [hown 4 l2A l2C l2] w) ?_ ?_
    · rintro a w ⟨c1, h, hf, hs⟩
      unfold M_ref10_IsOrder_k2 at h
      refine C.cond hf (b := c1) rfl (fun hc => ?_) (fun hc => ?_)
      · replace h := h.1 hc
        refine wp_seq ?_
        refine R.list ?_
        refine S.val hf hs (v := .bool false) rfl rfl rfl (V.pure rfl) (fun a hf => ?_)
        refine R.nil ?_
        refine X.then_ ?_
        refine wp_ret ?_
        refine X.then_ret ?_
        refine X.blk_ret ?_
        refine X.then_ret ?_
        refine X.then_ret ?_
        refine X.blk_ret ?_
        refine X.then_ret ?_
        exact L.ret hf (run_results1 Try.results28 (ResIs.tmp hf rfl)) ⟨false, rfl, h, hs.nil⟩
      · replace h := h.2 hc
        refine wp_skip ?_
        refine X.then_ ?_
        refine R.list ?_
        refine S.val hf hs (v := .slice l2A l2.length l2C) rfl rfl rfl (V.pure rfl) (fun a hf => ?_)
        refine S.val hf hs (v := .int .i64 xk1) rfl rfl rfl (V.pure rfl) (fun a hf => ?_)
        obtain ⟨h0x1, x1, hx1, h⟩ := h
        refine S.val hf hs (v := elemPtr l2A (xk1.toNat * 1)) rfl rfl rfl (V.index rfl rfl rfl Try.runUnderlying29 Try.sizeOf4 (hs.ownSome 0 rfl (lt_of_get hx1)) h0x1 (lt_of_get hx1) rfl) (fun a hf => ?_)
        refine S.storeOwn (off := 0) 0 hf hs rfl rfl true [.bool true] rfl hx1 rfl rfl rfl rfl rfl Try.sizeOf4 rfl (by decide) rfl rfl (fun a w hf hs => ?_)
        replace hf := hf.tell 5 (v := .slice l2A (l2.set xk1.toNat true).length l2C) ((hf.get 5 (.slice l2A l2.length l2C) rfl).trans (congrArg (fun n => Value.slice l2A n l2C) List.length_set.symm))
        replace hf := hf.tell 27 (v := .slice l2A (l2.set xk1.toNat true).length l2C) ((hf.get 27 (.slice l2A l2.length l2C) rfl).trans (congrArg (fun n => Value.slice l2A n l2C) List.length_set.symm))
        refine R.nil ?_
        refine X.blk ?_
        refine X.then_ ?_
        refine R.list ?_
        refine S.val hf hs (v := .int .i64 ((k1 + 1 : Nat) : Int)) rfl rfl rfl (V.incr rfl rfl rfl hltk1 hlenk1) (fun a hf => ?_)
        refine S.val hf hs (v := .int .i64 ((k1 + 1 : Nat) : Int)) rfl rfl rfl (V.pure rfl) (fun a hf => ?_)
        refine R.nil ?_
        refine X.then_ ?_
        exact ⟨xk1, llk1, rfl, k1 + 1, (l2.set xk1.toNat true), l2A, l2C, range_drop hlk1, range_len hkk1, (by rw [hnext1] at h; exact h), ((((((hf.nil.cons (hf.get 11 _ rfl)).cons (hf.get 10 _ rfl)).cons (hf.get 5 _ rfl)).cons (hf.get 1 _ rfl)).cons (hf.get 0 _ rfl)).cons (hf.get 12 _ rfl)), hs⟩
    · skip
      refine R.list ?_
      refine S.val hf hs (v := .int .i64 xk1) rfl rfl rfl (V.pure rfl) (fun a hf => ?_)
      refine S.val hf hs (v := .int .i64 n) rfl rfl rfl (V.pure rfl) (fun a hf => ?_)
      refine S.val hf hs (v := .int .i64 (w64 (n - 1))) rfl rfl rfl (V.pure rfl) (fun a hf => ?_)
      refine S.callv hf rfl rfl rfl (call_fn (vs := [.int .i64 xk1, .int .i64 0, .int .i64 (w64 (n - 1))]) rfl rfl rfl Try.call20) (C_ref10_within xk1 0 (w64 (n - 1)) _ ) (fun a w hf hs' => ?_)
      replace hs := hs.call hs'; clear hs'
      refine S.val hf hs (v := .bool (!(within xk1 0 (w64 (n - 1))))) rfl rfl rfl (V.pure rfl) (fun a hf => ?_)
      refine S.split hf hs (b := !(within xk1 0 (w64 (n - 1)))) rfl rfl rfl (V.pure rfl) (fun hc a hf => ?_) (fun hc a hf => ?_)
      · replace h := h.1 hc
        refine S.skip hf rfl rfl rfl (fun a hf => ?_)
        refine S.skip hf rfl rfl rfl (fun a hf => ?_)
        refine S.skip hf rfl rfl rfl (fun a hf => ?_)
        refine S.skip hf rfl rfl rfl (fun a hf => ?_)
        refine S.val hf hs (v := .bool true) rfl rfl rfl (V.pure rfl) (fun a hf => ?_)
        refine R.nil ?_
        refine X.then_ ?_
        exact ⟨true, h, ((((((((hf.nil.cons (hf.get 26 _ rfl)).cons (hf.get 12 _ rfl)).cons (hf.get 11 _ rfl)).cons (hf.get 10 _ rfl)).cons (hf.get 7 _ rfl)).cons (hf.get 5 _ rfl)).cons (hf.get 1 _ rfl)).cons (hf.get 0 _ rfl)), hs⟩
      · replace h := h.2 hc
        refine S.val hf hs (v := .slice l2A l2.length l2C) rfl rfl rfl (V.pure rfl) (fun a hf => ?_)
        refine S.val hf hs (v := .int .i64 xk1) rfl rfl rfl (V.pure rfl) (fun a hf => ?_)
        obtain ⟨h0x2, x2, hx2, h⟩ := h
        refine S.val hf hs (v := elemPtr l2A (xk1.toNat * 1)) rfl rfl rfl (V.index rfl rfl rfl Try.runUnderlying29 Try.sizeOf4 (hs.ownSome 0 rfl (lt_of_get hx2)) h0x2 (lt_of_get hx2) rfl) (fun a hf => ?_)
        refine S.val hf hs (v := .bool x2) rfl rfl rfl (V.loadOwn (off := 0) 0 rfl hx2 rfl rfl rfl Try.isAgg4 Try.sizeOf4 rfl rfl) (fun a hf => ?_)
        refine S.val hf hs (v := .bool x2) rfl rfl rfl (V.pure rfl) (fun a hf => ?_)
        refine R.nil ?_
        refine X.then_ ?_
        exact ⟨x2, h, ((((((((hf.nil.cons (hf.get 26 _ rfl)).cons (hf.get 12 _ rfl)).cons (hf.get 11 _ rfl)).cons (hf.get 10 _ rfl)).cons (hf.get 7 _ rfl)).cons (hf.get 5 _ rfl)).cons (hf.get 1 _ rfl)).cons (hf.get 0 _ rfl)), hs⟩

set_option linter.unusedVariables false
def M_mount_makespan_L1 (l : (List Batch)) (k1 : Nat) (xk1 : Int) (n3 : Int) (n4 : Int) (next1 : Int → Int → Prop) : Prop :=
  idx l xk1 fun x1 => next1 (w64 (n3 + x1.A)) (w64 ((max (w64 (n3 + x1.A)) n4) + x1.B))
def M_mount_makespan (l : (List Batch)) (order : (List Int)) (Q : Int → Prop) : Prop :=
  forIn' (fun k x (s : Int × Int) next => M_mount_makespan_L1 l k x s.1 s.2 (fun n3 n4 => next (n3, n4))) (fun (s : Int × Int) => (fun (n3 : Int) (n4 : Int) => Q n4) s.1 s.2) order 0 (0, 0)
set_option maxHeartbeats 1000000 in
theorem R_mount_makespan (l : (List Batch)) (order : (List Int)) (w0 : World) (lA : Option Addr) (lC : Nat) (hv_l : View w0 (old w0 none_) lA lC l) (orderA : Option Addr) (orderC : Nat) (hv_order : View w0 (old w0 none_) orderA orderC order) (Q : Int → Prop) (h : M_mount_makespan l order Q) :
    Ret Try.prog 26 #[.slice lA l.length lC, .slice orderA order.length orderC] w0 fun v w' => ∃ (r0 : Int), v = .int .i64 r0 ∧ Q r0 ∧ Sat w0 none_ [] w' := by
  refine fn_enter Try.func26 rfl Try.ntmps26 rfl (fs := [(0, .slice lA l.length lC), (1, .slice orderA order.length orderC)]) rfl (fun a hf => ?_)
  have hs := Sat.start w0 none_
  unfold M_mount_makespan at h
  refine wp_seq ?_
  refine R.list ?_
  refine S.val hf hs (v := .int .i64 0) rfl rfl rfl (V.pure rfl) (fun a hf => ?_)
  refine R.nil ?_
  refine X.then_ ?_
  refine wp_seq ?_
  refine R.list ?_
  refine S.val hf hs (v := .int .i64 0) rfl rfl rfl (V.pure rfl) (fun a hf => ?_)
  refine S.val hf hs (v := .int .i64 0) rfl rfl rfl (V.pure rfl) (fun a hf => ?_)
  refine R.nil ?_
  refine X.then_ ?_
  refine wp_seq ?_
  refine wp_seq ?_
  refine R.list ?_
  refine S.val hf hs (v := .slice orderA order.length orderC) rfl rfl rfl (V.pure rfl) (fun a hf => ?_)
  refine S.val hf hs (v := .int .i64 (order.length : Int)) rfl rfl rfl (V.len rfl rfl Try.runUnderlying22) (fun a hf => ?_)
  refine S.val hf hs (v := .int .i64 0) rfl rfl rfl (V.pure rfl) (fun a hf => ?_)
  refine R.nil ?_
  refine X.then_ ?_
  refine wp_block ?_
  have hlenk1 := hv_order.len64
  refine C.range (fun (ll : List Int) a w => ∃ (k1 : Nat) (n3 : Int) (n4 : Int), order.drop k1 = ll ∧ k1 + ll.length = order.length ∧ forIn' (fun k x (s : Int × Int) next => M_mount_makespan_L1 l k x s.1 s.2 (fun n3 n4 => next (n3, n4))) (fun (s : Int × Int) => (fun (n3 : Int) (n4 : Int) => Q n4) s.1 s.2) ll k1 (n3, n4) ∧ FrOk 33 [(11, .int .i64 (k1 : Int)), (0, .slice lA l.length lC), (5, .int .i64 n3), (6, .int .i64 n4), (9, .slice orderA order.length orderC), (10, .int .i64 (order.length : Int))] a ∧ Sat w0 none_ [] w) order ⟨0, 0, 0, rfl, Nat.zero_add _, h, ((((((hf.nil.cons (hf.get 10 _ rfl)).cons (hf.get 9 _ rfl)).cons (hf.get 6 _ rfl)).cons (hf.get 5 _ rfl)).cons (hf.get 0 _ rfl)).cons (hf.get 11 _ rfl)), hs⟩ ?_
  clear h hf hs
  rintro llk1 a w ⟨k1, n3, n4, hlk1, hkk1, h, hf, hs⟩
  cases llk1 with
  | nil =>
    have hc := range_done hkk1
    replace h : (fun (n3 : Int) (n4 : Int) => Q n4) n3 n4 := h
    refine wp_seq ?_
    refine R.list ?_
    refine S.val hf hs (v := .bool false) rfl rfl rfl (V.cmp false rfl rfl rfl rfl hc) (fun a hf => ?_)
    refine R.nil ?_
    refine X.then_ ?_
    refine wp_seq ?_
    refine C.no hf rfl ?_
    refine wp_exit ?_
    refine X.then_exit ?_
    refine X.then_exit ?_
    refine X.blk_exit ?_
    refine X.then_ ?_
    refine wp_seq ?_
    refine R.list ?_
    refine S.val hf hs (v := .int .i64 n4) rfl rfl rfl (V.pure rfl) (fun a hf => ?_)
    refine S.val hf hs (v := .int .i64 n4) rfl rfl rfl (V.pure rfl) (fun a hf => ?_)
    refine R.nil ?_
    refine X.then_ ?_
    refine wp_ret ?_
    exact L.ret hf (run_results1 Try.results26 (ResIs.tmp hf rfl)) ⟨n4, rfl, h, hs.nil⟩
  | cons xk1 llk1 =>
    have hltk1 := range_lt hkk1; have hc := range_go hkk1; have hxk1 := range_get hlk1
    obtain ⟨next1, hnext1⟩ : ∃ X : Int → Int → Prop, X = (fun n3 n4 => forIn' (fun k x (s : Int × Int) next => M_mount_makespan_L1 l k x s.1 s.2 (fun n3 n4 => next (n3, n4))) (fun (s : Int × Int) => (fun (n3 : Int) (n4 : Int) => Q n4) s.1 s.2) llk1 (k1 + 1) (n3, n4)) := ⟨_, rfl⟩
    replace h : M_mount_makespan_L1 l k1 xk1 n3 n4 next1 := by rw [hnext1]; exact h
    unfold M_mount_makespan_L1 at h
    refine wp_seq ?_
    refine R.list ?_
    refine S.val hf hs (v := .bool true) rfl rfl rfl (V.cmp true rfl rfl rfl rfl hc) (fun a hf => ?_)
    refine R.nil ?_
    refine X.then_ ?_
    refine wp_seq ?_
    refine C.yes hf rfl ?_
    refine wp_skip ?_
    refine X.then_ ?_
    refine wp_seq ?_
    refine wp_block ?_
    refine wp_seq ?_
    refine R.list ?_
    refine S.val hf hs (v := elemPtr orderA (k1 * 1)) rfl rfl rfl (V.index rfl rfl rfl Try.runUnderlying22 Try.sizeOf3 (hv_order.some_ (lt_of_get hxk1)) (Int.natCast_nonneg _) (lt_of_get hxk1) rfl) (fun a hf => ?_)
    refine S.val hf hs (v := .int .i64 xk1) rfl rfl rfl (V.loadEl (off := 0) (Ag.args _ _ _) (hv_order.flat hxk1) rfl rfl rfl Try.isAgg3 Try.sizeOf3 rfl rfl) (fun a hf => ?_)
    refine S.val hf hs (v := .int .i64 xk1) rfl rfl rfl (V.pure rfl) (fun a hf => ?_)
    refine R.nil ?_
    refine X.then_ ?_
    refine wp_seq ?_
    refine R.list ?_
    refine S.val hf hs (v := .int .i64 n3) rfl rfl rfl (V.pure rfl) (fun a hf => ?_)
    refine S.val hf hs (v := .slice lA l.length lC) rfl rfl rfl (V.pure rfl) (fun a hf => ?_)
    refine S.val hf hs (v := .int .i64 xk1) rfl rfl rfl (V.pure rfl) (fun a hf => ?_)
    obtain ⟨h0x1, x1, hx1, h⟩ := h
    refine S.val hf hs (v := elemPtr lA (xk1.toNat * 3)) rfl rfl rfl (V.index rfl rfl rfl Try.runUnderlying32 Try.sizeOf54 (hv_l.some_ (lt_of_get hx1)) h0x1 (lt_of_get hx1) rfl) (fun a hf => ?_)
    refine S.val hf hs (v := elemPtr lA (xk1.toNat * 3 + 1)) rfl rfl rfl (V.fieldEl rfl rfl (hv_l.some_ (lt_of_get hx1)) Try.runUnderlying54 rfl Try.sizeOf3 rfl rfl) (fun a hf => ?_)
    refine S.val hf hs (v := .int .i64 x1.A) rfl rfl rfl (V.loadEl (off := 1) (Ag.args _ _ _) (hv_l.flat hx1) rfl rfl rfl Try.isAgg3 Try.sizeOf3 rfl rfl) (fun a hf => ?_)
    refine S.val hf hs (v := .int .i64 (w64 (n3 + x1.A))) rfl rfl rfl (V.pure rfl) (fun a hf => ?_)
    refine S.val hf hs (v := .int .i64 (w64 (n3 + x1.A))) rfl rfl rfl (V.pure rfl) (fun a hf => ?_)
    refine R.nil ?_
    refine X.then_ ?_
    refine R.list ?_
    refine S.val hf hs (v := .int .i64 (w64 (n3 + x1.A))) rfl rfl rfl (V.pure rfl) (fun a hf => ?_)
    refine S.val hf hs (v := .int .i64 n4) rfl rfl rfl (V.pure rfl) (fun a hf => ?_)
    refine S.val hf hs (v := .int .i64 (max (w64 (n3 + x1.A)) n4)) rfl rfl rfl (V.max2 rfl rfl rfl) (fun a hf => ?_)
    refine S.val hf hs (v := .slice lA l.length lC) rfl rfl rfl (V.pure rfl) (fun a hf => ?_)
    refine S.val hf hs (v := .int .i64 xk1) rfl rfl rfl (V.pure rfl) (fun a hf => ?_)
    refine S.val hf hs (v := elemPtr lA (xk1.toNat * 3)) rfl rfl rfl (V.index rfl rfl rfl Try.runUnderlying32 Try.sizeOf54 (hv_l.some_ (lt_of_get hx1)) h0x1 (lt_of_get hx1) rfl) (fun a hf => ?_)
    refine S.val hf hs (v := elemPtr lA (xk1.toNat * 3 + 2)) rfl rfl rfl (V.fieldEl rfl rfl (hv_l.some_ (lt_of_get hx1)) Try.runUnderlying54 rfl Try.sizeOf3 rfl rfl) (fun a hf => ?_)
    refine S.val hf hs (v := .int .i64 x1.B) rfl rfl rfl (V.loadEl (off := 2) (Ag.args _ _ _) (hv_l.flat hx1) rfl rfl rfl Try.isAgg3 Try.sizeOf3 rfl rfl) (fun a hf => ?_)
    refine S.val hf hs (v := .int .i64 (w64 ((max (w64 (n3 + x1.A)) n4) + x1.B))) rfl rfl rfl (V.pure rfl) (fun a hf => ?_)
    refine S.val hf hs (v := .int .i64 (w64 ((max (w64 (n3 + x1.A)) n4) + x1.B))) rfl rfl rfl (V.pure rfl) (fun a hf => ?_)
    refine R.nil ?_
    refine X.blk ?_
    refine X.then_ ?_
    refine R.list ?_
    refine S.val hf hs (v := .int .i64 ((k1 + 1 : Nat) : Int)) rfl rfl rfl (V.incr rfl rfl rfl hltk1 hlenk1) (fun a hf => ?_)
    refine S.val hf hs (v := .int .i64 ((k1 + 1 : Nat) : Int)) rfl rfl rfl (V.pure rfl) (fun a hf => ?_)
    refine R.nil ?_
    refine X.then_ ?_
    exact ⟨xk1, llk1, rfl, k1 + 1, (w64 (n3 + x1.A)), (w64 ((max (w64 (n3 + x1.A)) n4) + x1.B)), range_drop hlk1, range_len hkk1, (by rw [hnext1] at h; exact h), ((((((hf.nil.cons (hf.get 10 _ rfl)).cons (hf.get 9 _ rfl)).cons (hf.get 6 _ rfl)).cons (hf.get 5 _ rfl)).cons (hf.get 0 _ rfl)).cons (hf.get 11 _ rfl)), hs⟩

set_option linter.unusedVariables false
def M_ref10_makespan_L1 (l : (List Batch)) (k1 : Nat) (xk1 : Int) (n3 : Int) (n4 : Int) (next1 : Int → Int → Prop) : Prop :=
  idx l xk1 fun x1 => next1 (w64 (n3 + x1.A)) (w64 ((max (w64 (n3 + x1.A)) n4) + x1.B))
def M_ref10_makespan (l : (List Batch)) (order : (List Int)) (Q : Int → Prop) : Prop :=
  forIn' (fun k x (s : Int × Int) next => M_ref10_makespan_L1 l k x s.1 s.2 (fun n3 n4 => next (n3, n4))) (fun (s : Int × Int) => (fun (n3 : Int) (n4 : Int) => Q n4) s.1 s.2) order 0 (0, 0)
set_option maxHeartbeats 1000000 in
theorem R_ref10_makespan (l : (List Batch)) (order : (List Int)) (w0 : World) (lA : Option Addr) (lC : Nat) (hv_l : View w0 (old w0 none_) lA lC l) (orderA : Option Addr) (orderC : Nat) (hv_order : View w0 (old w0 none_) orderA orderC order) (Q : Int → Prop) (h : M_ref10_makespan l order Q) :
    Ret Try.prog 29 #[.slice lA l.length lC, .slice orderA order.length orderC] w0 fun v w' => ∃ (r0 : Int), v = .int .i64 r0 ∧ Q r0 ∧ Sat w0 none_ [] w' := by
  refine fn_enter Try.func29 rfl Try.ntmps29 rfl (fs := [(0, .slice lA l.length lC), (1, .slice orderA order.length orderC)]) rfl (fun a hf => ?_)
  have hs := Sat.start w0 none_
  unfold M_ref10_makespan at h
  refine wp_seq ?_
  refine R.list ?_
  refine S.val hf hs (v := .int .i64 0) rfl rfl rfl (V.pure rfl) (fun a hf => ?_)
  refine R.nil ?_
  refine X.then_ ?_
  refine wp_seq ?_
  refine R.list ?_
  refine S.val hf hs (v := .int .i64 0) rfl rfl rfl (V.pure rfl) (fun a hf => ?_)
  refine S.val hf hs (v := .int .i64 0) rfl rfl rfl (V.pure rfl) (fun a hf => ?_)
  refine R.nil ?_
  refine X.then_ ?_
  refine wp_seq ?_
  refine wp_seq ?_
  refine R.list ?_
  refine S.val hf hs (v := .slice orderA order.length orderC) rfl rfl rfl (V.pure rfl) (fun a hf => ?_)
  refine S.val hf hs (v := .int .i64 (order.length : Int)) rfl rfl rfl (V.len rfl rfl Try.runUnderlying22) (fun a hf => ?_)
  refine S.val hf hs (v := .int .i64 0) rfl rfl rfl (V.pure rfl) (fun a hf => ?_)
  refine R.nil ?_
  refine X.then_ ?_
  refine wp_block ?_
  have hlenk1 := hv_order.len64
  refine C.range (fun (ll : List Int) a w => ∃ (k1 : Nat) (n3 : Int) (n4 : Int), order.drop k1 = ll ∧ k1 + ll.length = order.length ∧ forIn' (fun k x (s : Int × Int) next => M_ref10_makespan_L1 l k x s.1 s.2 (fun n3 n4 => next (n3, n4))) (fun (s : Int × Int) => (fun (n3 : Int) (n4 : Int) => Q n4) s.1 s.2) ll k1 (n3, n4) ∧ FrOk 33 [(11, .int .i64 (k1 : Int)), (0, .slice lA l.length lC), (5, .int .i64 n3), (6, .int .i64 n4), (9, .slice orderA order.length orderC), (10, .int .i64 (order.length : Int))] a ∧ Sat w0 none_ [] w) order ⟨0, 0, 0, rfl, Nat.zero_add _, h, ((((((hf.nil.cons (hf.get 10 _ rfl)).cons (hf.get 9 _ rfl)).cons (hf.get 6 _ rfl)).cons (hf.get 5 _ rfl)).cons (hf.get 0 _ rfl)).cons (hf.get 11 _ rfl)), hs⟩ ?_
  clear h hf hs
  rintro llk1 a w ⟨k1, n3, n4, hlk1, hkk1, h, hf, hs⟩
  cases llk1 with
  | nil =>
    have hc := range_done hkk1
    replace h : (fun (n3 : Int) (n4 : Int) => Q n4) n3 n4 := h
    refine wp_seq ?_
    refine R.list ?_
    refine S.val hf hs (v := .bool false) rfl rfl rfl (V.cmp false rfl rfl rfl rfl hc) (fun a hf => ?_)
    refine R.nil ?_
    refine X.then_ ?_
    refine wp_seq ?_
    refine C.no hf rfl ?_
    refine wp_exit ?_
    refine X.then_exit ?_
    refine X.then_exit ?_
    refine X.blk_exit ?_
    refine X.then_ ?_
    refine wp_seq ?_
    refine R.list ?_
    refine S.val hf hs (v := .int .i64 n4) rfl rfl rfl (V.pure rfl) (fun a hf => ?_)
    refine S.val hf hs (v := .int .i64 n4) rfl rfl rfl (V.pure rfl) (fun a hf => ?_)
    refine R.nil ?_
    refine X.then_ ?_
    refine wp_ret ?_
    exact L.ret hf (run_results1 Try.results29 (ResIs.tmp hf rfl)) ⟨n4, rfl, h, hs.nil⟩
  | cons xk1 llk1 =>
    have hltk1 := range_lt hkk1; have hc := range_go hkk1; have hxk1 := range_get hlk1
    obtain ⟨next1, hnext1⟩ : ∃ X : Int → Int → Prop, X = (fun n3 n4 => forIn' (fun k x (s : Int × Int) next => M_ref10_makespan_L1 l k x s.1 s.2 (fun n3 n4 => next (n3, n4))) (fun (s : Int × Int) => (fun (n3 : Int) (n4 : Int) => Q n4) s.1 s.2) llk1 (k1 + 1) (n3, n4)) := ⟨_, rfl⟩
    replace h : M_ref10_makespan_L1 l k1 xk1 n3 n4 next1 := by rw [hnext1]; exact h
    unfold M_ref10_makespan_L1 at h
    refine wp_seq ?_
    refine R.list ?_
    refine S.val hf hs (v := .bool true) rfl rfl rfl (V.cmp true rfl rfl rfl rfl hc) (fun a hf => ?_)
    refine R.nil ?_
    refine X.then_ ?_
    refine wp_seq ?_
    refine C.yes hf rfl ?_
    refine wp_skip ?_
    refine X.then_ ?_
    refine wp_seq ?_
    refine wp_block ?_
    refine wp_seq ?_
    refine R.list ?_
    refine S.val hf hs (v := elemPtr orderA (k1 * 1)) rfl rfl rfl (V.index rfl rfl rfl Try.runUnderlying22 Try.sizeOf3 (hv_order.some_ (lt_of_get hxk1)) (Int.natCast_nonneg _) (lt_of_get hxk1) rfl) (fun a hf => ?_)
    refine S.val hf hs (v := .int .i64 xk1) rfl rfl rfl (V.loadEl (off := 0) (Ag.args _ _ _) (hv_order.flat hxk1) rfl rfl rfl Try.isAgg3 Try.sizeOf3 rfl rfl) (fun a hf => ?_)
    refine S.val hf hs (v := .int .i64 xk1) rfl rfl rfl (V.pure rfl) (fun a hf => ?_)
    refine R.nil ?_
    refine X.then_ ?_
    refine wp_seq ?_
    refine R.list ?_
    refine S.val hf hs (v := .int .i64 n3) rfl rfl rfl (V.pure rfl) (fun a hf => ?_)
    refine S.val hf hs (v := .slice lA l.length lC) rfl rfl rfl (V.pure rfl) (fun a hf => ?_)
    refine S.val hf hs (v := .int .i64 xk1) rfl rfl rfl (V.pure rfl) (fun a hf => ?_)
    obtain ⟨h0x1, x1, hx1, h⟩ := h
    refine S.val hf hs (v := elemPtr lA (xk1.toNat * 3)) rfl rfl rfl (V.index rfl rfl rfl Try.runUnderlying32 Try.sizeOf54 (hv_l.some_ (lt_of_get hx1)) h0x1 (lt_of_get hx1) rfl) (fun a hf => ?_)
    refine S.val hf hs (v := elemPtr lA (xk1.toNat * 3 + 1)) rfl rfl rfl (V.fieldEl rfl rfl (hv_l.some_ (lt_of_get hx1)) Try.runUnderlying54 rfl Try.sizeOf3 rfl rfl) (fun a hf => ?_)
    refine S.val hf hs (v := .int .i64 x1.A) rfl rfl rfl (V.loadEl (off := 1) (Ag.args _ _ _) (hv_l.flat hx1) rfl rfl rfl Try.isAgg3 Try.sizeOf3 rfl rfl) (fun a hf => ?_)
    refine S.val hf hs (v := .int .i64 (w64 (n3 + x1.A))) rfl rfl rfl (V.pure rfl) (fun a hf => ?_)
    refine S.val hf hs (v := .int .i64 (w64 (n3 + x1.A))) rfl rfl rfl (V.pure rfl) (fun a hf => ?_)
    refine R.nil ?_
    refine X.then_ ?_
    refine R.list ?_
    refine S.val hf hs (v := .int .i64 (w64 (n3 + x1.A))) rfl rfl rfl (V.pure rfl) (fun a hf => ?_)
    refine S.val hf hs (v := .int .i64 n4) rfl rfl rfl (V.pure rfl) (fun a hf => ?_)
    refine S.val hf hs (v := .int .i64 (max (w64 (n3 + x1.A)) n4)) rfl rfl rfl (V.max2 rfl rfl rfl) (fun a hf => ?_)
    refine S.val hf hs (v := .slice lA l.length lC) rfl rfl rfl (V.pure rfl) (fun a hf => ?_)
    refine S.val hf hs (v := .int .i64 xk1) rfl rfl rfl (V.pure rfl) (fun a hf => ?_)
    refine S.val hf hs (v := elemPtr lA (xk1.toNat * 3)) rfl rfl rfl (V.index rfl rfl rfl Try.runUnderlying32 Try.sizeOf54 (hv_l.some_ (lt_of_get hx1)) h0x1 (lt_of_get hx1) rfl) (fun a hf => ?_)
    refine S.val hf hs (v := elemPtr lA (xk1.toNat * 3 + 2)) rfl rfl rfl (V.fieldEl rfl rfl (hv_l.some_ (lt_of_get hx1)) Try.runUnderlying54 rfl Try.sizeOf3 rfl rfl) (fun a hf => ?_)
    refine S.val hf hs (v := .int .i64 x1.B) rfl rfl rfl (V.loadEl (off := 2) (Ag.args _ _ _) (hv_l.flat hx1) rfl rfl rfl Try.isAgg3 Try.sizeOf3 rfl rfl) (fun a hf => ?_)
    refine S.val hf hs (v := .int .i64 (w64 ((max (w64 (n3 + x1.A)) n4) + x1.B))) rfl rfl rfl (V.pure rfl) (fun a hf => ?_)
    refine S.val hf hs (v := .int .i64 (w64 ((max (w64 (n3 + x1.A)) n4) + x1.B))) rfl rfl rfl (V.pure rfl) (fun a hf => ?_)
    refine R.nil ?_
    refine X.blk ?_
    refine X.then_ ?_
    refine R.list ?_
    refine S.val hf hs (v := .int .i64 ((k1 + 1 : Nat) : Int)) rfl rfl rfl (V.incr rfl rfl rfl hltk1 hlenk1) (fun a hf => ?_)
    refine S.val hf hs (v := .int .i64 ((k1 + 1 : Nat) : Int)) rfl rfl rfl (V.pure rfl) (fun a hf => ?_)
    refine R.nil ?_
    refine X.then_ ?_
    exact ⟨xk1, llk1, rfl, k1 + 1, (w64 (n3 + x1.A)), (w64 ((max (w64 (n3 + x1.A)) n4) + x1.B)), range_drop hlk1, range_len hkk1, (by rw [hnext1] at h; exact h), ((((((hf.nil.cons (hf.get 10 _ rfl)).cons (hf.get 9 _ rfl)).cons (hf.get 6 _ rfl)).cons (hf.get 5 _ rfl)).cons (hf.get 0 _ rfl)).cons (hf.get 11 _ rfl)), hs⟩

set_option linter.unusedVariables false
def M_mount_checkLots_k2 (Q : Int → Prop) (xk1 : Batch) (m2 : List (Str × Bool)) (next1 : List (Str × Bool) → Prop) (c1 : Bool) : Prop :=
  cnd c1 (Q 1) (cnd ((mget m2 xk1.Name).getD false) (Q 7) (next1 (mput m2 xk1.Name true)))
def M_mount_checkLots_L1 (Q : Int → Prop) (k1 : Nat) (xk1 : Batch) (m2 : List (Str × Bool)) (next1 : List (Str × Bool) → Prop) : Prop :=
  M_netlist_IsWord xk1.Name fun y1 => cnd (!y1) (Q 5) (cnd (!(within xk1.A 0 1000000)) (M_mount_checkLots_k2 Q xk1 m2 next1 true) (M_mount_checkLots_k2 Q xk1 m2 next1 (!(within xk1.B 0 1000000))))
def M_mount_checkLots (l : (List Batch)) (most : Int) (Q : Int → Prop) : Prop :=
  cnd (decide ((l.length : Int) > most)) (Q 2) (forIn' (fun k x (s : List (Str × Bool)) next => M_mount_checkLots_L1 Q k x s (fun m2 => next m2)) (fun (s : List (Str × Bool)) => (fun (m2 : List (Str × Bool)) => Q 0) s) l 0 ([] : List (Str × Bool)))
set_option maxHeartbeats 1000000 in
theorem R_mount_checkLots (l : (List Batch)) (most : Int) (w0 : World) (lA : Option Addr) (lC : Nat) (hv_l : View w0 (old w0 none_) lA lC l) (Q : Int → Prop) (h : M_mount_checkLots l most Q) :
    Ret Try.prog 24 #[.slice lA l.length lC, .int .i64 most] w0 fun v w' => ∃ (r0 : Int), v = .int .i64 r0 ∧ Q r0 ∧ Sat w0 none_ [] w' := by
  refine fn_enter Try.func24 rfl Try.ntmps24 rfl (fs := [(0, .slice lA l.length lC), (1, .int .i64 most)]) rfl (fun a hf => ?_)
  have hs := Sat.start w0 none_
  unfold M_mount_checkLots at h
  refine wp_seq ?_
  refine R.list ?_
  refine S.val hf hs (v := .int .i64 0) rfl rfl rfl (V.pure rfl) (fun a hf => ?_)
  refine R.nil ?_
  refine X.then_ ?_
  refine wp_seq ?_
  refine wp_seq ?_
  refine R.list ?_
  refine S.val hf hs (v := .slice lA l.length lC) rfl rfl rfl (V.pure rfl) (fun a hf => ?_)
  refine S.val hf hs (v := .int .i64 (l.length : Int)) rfl rfl rfl (V.len rfl rfl Try.runUnderlying32) (fun a hf => ?_)
  refine S.val hf hs (v := .int .i64 most) rfl rfl rfl (V.pure rfl) (fun a hf => ?_)
  refine S.val hf hs (v := .bool (decide ((l.length : Int) > most))) rfl rfl rfl (V.pure rfl) (fun a hf => ?_)
  refine R.nil ?_
  refine X.then_ ?_
  refine C.cond hf (b := decide ((l.length : Int) > most)) rfl (fun hc => ?_) (fun hc => ?_)
  · replace h := h.1 hc
    refine wp_seq ?_
    refine R.list ?_
    refine S.val hf hs (v := .int .i64 2) rfl rfl rfl (V.pure rfl) (fun a hf => ?_)
    refine R.nil ?_
    refine X.then_ ?_
    refine wp_ret ?_
    refine X.then_ret ?_
    exact L.ret hf (run_results1 Try.results24 (ResIs.tmp hf rfl)) ⟨2, rfl, h, hs.nil⟩
  · replace h := h.2 hc
    refine wp_skip ?_
    refine X.then_ ?_
    refine wp_seq ?_
    refine R.list ?_
    refine S.makeMap hf hs rfl rfl rfl ek9 ek4 rfl (fun g1 a w hf hs => ?_)
    refine S.val hf hs (v := .map (some g1)) rfl rfl rfl (V.pure rfl) (fun a hf => ?_)
    refine R.nil ?_
    refine X.then_ ?_
    refine wp_seq ?_
    refine wp_seq ?_
    refine R.list ?_
    refine S.val hf hs (v := .slice lA l.length lC) rfl rfl rfl (V.pure rfl) (fun a hf => ?_)
    refine S.val hf hs (v := .int .i64 (l.length : Int)) rfl rfl rfl (V.len rfl rfl Try.runUnderlying32) (fun a hf => ?_)
    refine S.val hf hs (v := .int .i64 0) rfl rfl rfl (V.pure rfl) (fun a hf => ?_)
    refine R.nil ?_
    refine X.then_ ?_
    refine wp_block ?_
    have hlenk1 := hv_l.len64
    refine C.range (fun (ll : List Batch) a w => ∃ (k1 : Nat) (m2 : List (Str × Bool)), l.drop k1 = ll ∧ k1 + ll.length = l.length ∧ forIn' (fun k x (s : List (Str × Bool)) next => M_mount_checkLots_L1 Q k x s (fun m2 => next m2)) (fun (s : List (Str × Bool)) => (fun (m2 : List (Str × Bool)) => Q 0) s) ll k1 m2 ∧ FrOk 44 [(15, .int .i64 (k1 : Int)), (5, .map (some g1)), (13, .slice lA l.length lC), (14, .int .i64 (l.length : Int))] a ∧ Sat w0 none_ [hmap g1 ek9 ek4 m2] w) l ⟨0, ([] : List (Str × Bool)), rfl, Nat.zero_add _, h, ((((hf.nil.cons (hf.get 14 _ rfl)).cons (hf.get 13 _ rfl)).cons (hf.get 5 _ rfl)).cons (hf.get 15 _ rfl)), hs⟩ ?_
    clear h hf hs
    rintro llk1 a w ⟨k1, m2, hlk1, hkk1, h, hf, hs⟩
    cases llk1 with
    | nil =>
      have hc := range_done hkk1
      replace h : (fun (m2 : List (Str × Bool)) => Q 0) m2 := h
      refine wp_seq ?_
      refine R.list ?_
      refine S.val hf hs (v := .bool false) rfl rfl rfl (V.cmp false rfl rfl rfl rfl hc) (fun a hf => ?_)
      refine R.nil ?_
      refine X.then_ ?_
      refine wp_seq ?_
      refine C.no hf rfl ?_
      refine wp_exit ?_
      refine X.then_exit ?_
      refine X.then_exit ?_
      refine X.blk_exit ?_
      refine X.then_ ?_
      refine wp_seq ?_
      refine R.list ?_
      refine S.val hf hs (v := .int .i64 0) rfl rfl rfl (V.pure rfl) (fun a hf => ?_)
      refine R.nil ?_
      refine X.then_ ?_
      refine wp_ret ?_
      exact L.ret hf (run_results1 Try.results24 (ResIs.tmp hf rfl)) ⟨0, rfl, h, hs.nil⟩
    | cons xk1 llk1 =>
      have hltk1 := range_lt hkk1; have hc := range_go hkk1; have hxk1 := range_get hlk1
      obtain ⟨next1, hnext1⟩ : ∃ X : List (Str × Bool) → Prop, X = (fun m2 => forIn' (fun k x (s : List (Str × Bool)) next => M_mount_checkLots_L1 Q k x s (fun m2 => next m2)) (fun (s : List (Str × Bool)) => (fun (m2 : List (Str × Bool)) => Q 0) s) llk1 (k1 + 1) m2) := ⟨_, rfl⟩
      replace h : M_mount_checkLots_L1 Q k1 xk1 m2 next1 := by rw [hnext1]; exact h
      unfold M_mount_checkLots_L1 at h
      refine wp_seq ?_
      refine R.list ?_
      refine S.val hf hs (v := .bool true) rfl rfl rfl (V.cmp true rfl rfl rfl rfl hc) (fun a hf => ?_)
      refine R.nil ?_
      refine X.then_ ?_
      refine wp_seq ?_
      refine C.yes hf rfl ?_
      refine wp_skip ?_
      refine X.then_ ?_
      refine wp_seq ?_
      refine wp_block ?_
      refine wp_seq ?_
      refine R.list ?_
      refine S.val hf hs (v := elemPtr lA (k1 * 3)) rfl rfl rfl (V.index rfl rfl rfl Try.runUnderlying32 Try.sizeOf54 (hv_l.some_ (lt_of_get hxk1)) (Int.natCast_nonneg _) (lt_of_get hxk1) rfl) (fun a hf => ?_)
      refine S.val hf hs (v := .agg #[.string (ba xk1.Name), .int .i64 xk1.A, .int .i64 xk1.B]) rfl rfl rfl (V.loadEl (off := 0) (Ag.args _ _ _) (hv_l.flat hxk1) rfl rfl rfl Try.isAgg54 Try.sizeOf54 rfl rfl) (fun a hf => ?_)
      refine S.alloc hf hs rfl rfl rfl [.string (ba []), .int .i64 0, .int .i64 0] rfl Try.zeroValue54 rfl (fun g2 a w hf hs => ?_)
      refine S.storeBox 0 hf hs rfl rfl [.string (ba xk1.Name), .int .i64 xk1.A, .int .i64 xk1.B] [.string (ba xk1.Name), .int .i64 xk1.A, .int .i64 xk1.B] rfl rfl rfl rfl rfl Try.sizeOf54 rfl rfl rfl rfl (fun a w hf hs => ?_)
      refine R.nil ?_
      refine X.then_ ?_
      refine wp_seq ?_
      refine wp_block ?_
      refine wp_seq ?_
      refine R.list ?_
      refine S.val hf hs (v := .pointer (some ⟨g2, 0, none⟩)) rfl rfl rfl (V.fieldBox rfl rfl Try.runUnderlying54 rfl Try.sizeOf9 rfl rfl) (fun a hf => ?_)
      refine S.val hf hs (v := .string (ba xk1.Name)) rfl rfl rfl (V.loadBox 0 rfl rfl rfl Try.isAgg9 Try.sizeOf9 rfl rfl) (fun a hf => ?_)
      refine S.call hf rfl rfl rfl (call_fn (vs := [.string (ba xk1.Name)]) rfl rfl rfl Try.call35) (R_netlist_IsWord xk1.Name _  _ h) (fun v a w' hf hr => ?_)
      obtain ⟨y1, rfl, h2, hs2⟩ := hr
      replace h := h2; replace hs := hs.call hs2; clear h2 hs2
      refine S.val hf hs (v := .bool (!y1)) rfl rfl rfl (V.pure rfl) (fun a hf => ?_)
      refine S.val hf hs (v := .bool (!y1)) rfl rfl rfl (V.pure rfl) (fun a hf => ?_)
      refine R.nil ?_
      refine X.then_ ?_
      refine C.cond hf (b := !y1) rfl (fun hc => ?_) (fun hc => ?_)
      · replace h := h.1 hc
        refine wp_seq ?_
        refine R.list ?_
        refine S.val hf hs (v := .int .i64 5) rfl rfl rfl (V.pure rfl) (fun a hf => ?_)
        refine R.nil ?_
        refine X.then_ ?_
        refine wp_ret ?_
        refine X.blk_ret ?_
        refine X.then_ret ?_
        refine X.blk_ret ?_
        refine X.then_ret ?_
        refine X.then_ret ?_
        refine X.blk_ret ?_
        refine X.then_ret ?_
        exact L.ret hf (run_results1 Try.results24 (ResIs.tmp hf rfl)) ⟨5, rfl, h, hs.nil⟩
      · replace h := h.2 hc
        refine wp_seq ?_
        refine C.cut (J := fun a w => ∃ (c1 : Bool), M_mount_checkLots_k2 Q xk1 m2 next1 c1 ∧ FrOk 44 [(5, .map (some g1)), (7, .pointer (some ⟨g2, 0, none⟩)), (13, .slice lA l.length lC), (14, .int .i64 (l.length : Int)), (15, .int .i64 (k1 : Int)), (24, .bool c1)] a ∧ Sat w0 none_ [hbox g2 54 [.string (ba xk1.Name), .int .i64 xk1.A, .int .i64 xk1.B], hmap g1 ek9 ek4 m2] w) ?_ ?_
        · rintro a w ⟨c1, h, hf, hs⟩
          unfold M_mount_checkLots_k2 at h
          refine C.cond hf (b := c1) rfl (fun hc => ?_) (fun hc => ?_)
          · replace h := h.1 hc
            refine wp_seq ?_
            refine R.list ?_
            refine S.val hf hs (v := .int .i64 1) rfl rfl rfl (V.pure rfl) (fun a hf => ?_)
            refine R.nil ?_
            refine X.then_ ?_
            refine wp_ret ?_
            refine X.blk_ret ?_
            refine X.then_ret ?_
            refine X.blk_ret ?_
            refine X.then_ret ?_
            refine X.then_ret ?_
            refine X.blk_ret ?_
            refine X.then_ret ?_
            exact L.ret hf (run_results1 Try.results24 (ResIs.tmp hf rfl)) ⟨1, rfl, h, hs.nil⟩
          · replace h := h.2 hc
            refine wp_seq ?_
            refine R.list ?_
            refine S.val hf hs (v := .map (some g1)) rfl rfl rfl (V.pure rfl) (fun a hf => ?_)
            refine S.val hf hs (v := .pointer (some ⟨g2, 0, none⟩)) rfl rfl rfl (V.fieldBox rfl rfl Try.runUnderlying54 rfl Try.sizeOf9 rfl rfl) (fun a hf => ?_)
            refine S.val hf hs (v := .string (ba xk1.Name)) rfl rfl rfl (V.loadBox 0 rfl rfl rfl Try.isAgg9 Try.sizeOf9 rfl rfl) (fun a hf => ?_)
            refine S.val hf hs (v := .bool ((mget m2 xk1.Name).getD false)) rfl rfl rfl (V.lookup 1 rfl (k := xk1.Name) (u := ((mget m2 xk1.Name).getD false)) (z := false) rfl rfl rfl Try.runUnderlying56 key9 Try.zeroValue4 rfl rfl) (fun a hf => ?_)
            refine S.val hf hs (v := .bool ((mget m2 xk1.Name).getD false)) rfl rfl rfl (V.pure rfl) (fun a hf => ?_)
            refine R.nil ?_
            refine X.then_ ?_
            refine C.cond hf (b := ((mget m2 xk1.Name).getD false)) rfl (fun hc => ?_) (fun hc => ?_)
            · replace h := h.1 hc
              refine wp_seq ?_
              refine R.list ?_
              refine S.val hf hs (v := .int .i64 7) rfl rfl rfl (V.pure rfl) (fun a hf => ?_)
              refine R.nil ?_
              refine X.then_ ?_
              refine wp_ret ?_
              refine X.blk_ret ?_
              refine X.then_ret ?_
              refine X.blk_ret ?_
              refine X.then_ret ?_
              refine X.then_ret ?_
              refine X.blk_ret ?_
              refine X.then_ret ?_
              exact L.ret hf (run_results1 Try.results24 (ResIs.tmp hf rfl)) ⟨7, rfl, h, hs.nil⟩
            · replace h := h.2 hc
              refine wp_skip ?_
              refine X.blk ?_
              refine X.then_ ?_
              refine R.list ?_
              refine S.val hf hs (v := .map (some g1)) rfl rfl rfl (V.pure rfl) (fun a hf => ?_)
              refine S.val hf hs (v := .pointer (some ⟨g2, 0, none⟩)) rfl rfl rfl (V.fieldBox rfl rfl Try.runUnderlying54 rfl Try.sizeOf9 rfl rfl) (fun a hf => ?_)
              refine S.val hf hs (v := .string (ba xk1.Name)) rfl rfl rfl (V.loadBox 0 rfl rfl rfl Try.isAgg9 Try.sizeOf9 rfl rfl) (fun a hf => ?_)
              refine S.mapUpdate 1 hf hs rfl rfl rfl xk1.Name true rfl rfl rfl rfl Try.runUnderlying56 key9 (fun a w hf hs => ?_)
              refine R.nil ?_
              refine X.blk ?_
              refine X.then_ ?_
              refine R.list ?_
              refine S.val hf hs (v := .int .i64 ((k1 + 1 : Nat) : Int)) rfl rfl rfl (V.incr rfl rfl rfl hltk1 hlenk1) (fun a hf => ?_)
              refine S.val hf hs (v := .int .i64 ((k1 + 1 : Nat) : Int)) rfl rfl rfl (V.pure rfl) (fun a hf => ?_)
              refine R.nil ?_
              refine X.then_ ?_
              exact ⟨xk1, llk1, rfl, k1 + 1, (mput m2 xk1.Name true), range_drop hlk1, range_len hkk1, (by rw [hnext1] at h; exact h), ((((hf.nil.cons (hf.get 14 _ rfl)).cons (hf.get 13 _ rfl)).cons (hf.get 5 _ rfl)).cons (hf.get 15 _ rfl)), hs.drop⟩
        · skip
          refine R.list ?_
          refine S.val hf hs (v := .pointer (some ⟨g2, 1, none⟩)) rfl rfl rfl (V.fieldBox rfl rfl Try.runUnderlying54 rfl Try.sizeOf3 rfl rfl) (fun a hf => ?_)
          refine S.val hf hs (v := .int .i64 xk1.A) rfl rfl rfl (V.loadBox 0 rfl rfl rfl Try.isAgg3 Try.sizeOf3 rfl rfl) (fun a hf => ?_)
          refine S.callv hf rfl rfl rfl (call_fn (vs := [.int .i64 xk1.A, .int .i64 0, .int .i64 1000000]) rfl rfl rfl Try.call17) (C_mount_within xk1.A 0 1000000 _ ) (fun a w hf hs' => ?_)
          replace hs := hs.call hs'; clear hs'
          refine S.val hf hs (v := .bool (!(within xk1.A 0 1000000))) rfl rfl rfl (V.pure rfl) (fun a hf => ?_)
          refine S.split hf hs (b := !(within xk1.A 0 1000000)) rfl rfl rfl (V.pure rfl) (fun hc a hf => ?_) (fun hc a hf => ?_)
          · replace h := h.1 hc
            refine S.skip hf rfl rfl rfl (fun a hf => ?_)
            refine S.skip hf rfl rfl rfl (fun a hf => ?_)
            refine S.skip hf rfl rfl rfl (fun a hf => ?_)
            refine S.skip hf rfl rfl rfl (fun a hf => ?_)
            refine S.val hf hs (v := .bool true) rfl rfl rfl (V.pure rfl) (fun a hf => ?_)
            refine S.val hf hs (v := .bool true) rfl rfl rfl (V.pure rfl) (fun a hf => ?_)
            refine R.nil ?_
            refine X.then_ ?_
            exact ⟨true, h, ((((((hf.nil.cons (hf.get 24 _ rfl)).cons (hf.get 15 _ rfl)).cons (hf.get 14 _ rfl)).cons (hf.get 13 _ rfl)).cons (hf.get 7 _ rfl)).cons (hf.get 5 _ rfl)), hs⟩
          · replace h := h.2 hc
            refine S.val hf hs (v := .pointer (some ⟨g2, 2, none⟩)) rfl rfl rfl (V.fieldBox rfl rfl Try.runUnderlying54 rfl Try.sizeOf3 rfl rfl) (fun a hf => ?_)
            refine S.val hf hs (v := .int .i64 xk1.B) rfl rfl rfl (V.loadBox 0 rfl rfl rfl Try.isAgg3 Try.sizeOf3 rfl rfl) (fun a hf => ?_)
            refine S.callv hf rfl rfl rfl (call_fn (vs := [.int .i64 xk1.B, .int .i64 0, .int .i64 1000000]) rfl rfl rfl Try.call17) (C_mount_within xk1.B 0 1000000 _ ) (fun a w hf hs' => ?_)
            replace hs := hs.call hs'; clear hs'
            refine S.val hf hs (v := .bool (!(within xk1.B 0 1000000))) rfl rfl rfl (V.pure rfl) (fun a hf => ?_)
            refine S.val hf hs (v := .bool (!(within xk1.B 0 1000000))) rfl rfl rfl (V.pure rfl) (fun a hf => ?_)
            refine S.val hf hs (v := .bool (!(within xk1.B 0 1000000))) rfl rfl rfl (V.pure rfl) (fun a hf => ?_)
            refine R.nil ?_
            refine X.then_ ?_
            exact ⟨(!(within xk1.B 0 1000000)), h, ((((((hf.nil.cons (hf.get 24 _ rfl)).cons (hf.get 15 _ rfl)).cons (hf.get 14 _ rfl)).cons (hf.get 13 _ rfl)).cons (hf.get 7 _ rfl)).cons (hf.get 5 _ rfl)), hs⟩

set_option linter.unusedVariables false
def M_ref10_checkBatches_L2 (Q : Int → Prop) (xk1 : Batch) (k3 : Nat) (xk3 : Batch)  (next2 : Prop) : Prop :=
  cnd (xk3.Name == xk1.Name) (Q 7) (next2)
def M_ref10_checkBatches_k2 (l : (List Batch)) (Q : Int → Prop) (k1 : Nat) (xk1 : Batch) (next1 : Prop) (c1 : Bool) : Prop :=
  cnd c1 (Q 1) (must (0 ≤ (0 : Int) ∧ (0 : Int) ≤ (k1 : Int) ∧ (k1 : Int) ≤ (l.length : Int)) (forIn' (fun k x (s : Unit) next => M_ref10_checkBatches_L2 Q xk1 k x (next ())) (fun (s : Unit) => next1) (seg l (0 : Int) (k1 : Int)) 0 ()))
def M_ref10_checkBatches_L1 (l : (List Batch)) (Q : Int → Prop) (k1 : Nat) (xk1 : Batch)  (next1 : Prop) : Prop :=
  M_ref10_isWord xk1.Name fun y1 => cnd (!y1) (Q 5) (cnd (!(within xk1.A 0 1000000)) (M_ref10_checkBatches_k2 l Q k1 xk1 next1 true) (M_ref10_checkBatches_k2 l Q k1 xk1 next1 (!(within xk1.B 0 1000000))))
def M_ref10_checkBatches (l : (List Batch)) (most : Int) (Q : Int → Prop) : Prop :=
  cnd (decide ((l.length : Int) > most)) (Q 2) (forIn' (fun k x (s : Unit) next => M_ref10_checkBatches_L1 l Q k x (next ())) (fun (s : Unit) => Q 0) l 0 ())
set_option maxHeartbeats 1000000 in
theorem R_ref10_checkBatches (l : (List Batch)) (most : Int) (w0 : World) (lA : Option Addr) (lC : Nat) (hv_l : View w0 (old w0 none_) lA lC l) (Q : Int → Prop) (h : M_ref10_checkBatches l most Q) :
    Ret Try.prog 27 #[.slice lA l.length lC, .int .i64 most] w0 fun v w' => ∃ (r0 : Int), v = .int .i64 r0 ∧ Q r0 ∧ Sat w0 none_ [] w' := by
  refine fn_enter Try.func27 rfl Try.ntmps27 rfl (fs := [(0, .slice lA l.length lC), (1, .int .i64 most)]) rfl (fun a hf => ?_)
  have hs := Sat.start w0 none_
  unfold M_ref10_checkBatches at h
  refine wp_seq ?_
  refine R.list ?_
  refine S.val hf hs (v := .int .i64 0) rfl rfl rfl (V.pure rfl) (fun a hf => ?_)
  refine R.nil ?_
  refine X.then_ ?_
  refine wp_seq ?_
  refine wp_seq ?_
  refine R.list ?_
  refine S.val hf hs (v := .slice lA l.length lC) rfl rfl rfl (V.pure rfl) (fun a hf => ?_)
  refine S.val hf hs (v := .int .i64 (l.length : Int)) rfl rfl rfl (V.len rfl rfl Try.runUnderlying32) (fun a hf => ?_)
  refine S.val hf hs (v := .int .i64 most) rfl rfl rfl (V.pure rfl) (fun a hf => ?_)
  refine S.val hf hs (v := .bool (decide ((l.length : Int) > most))) rfl rfl rfl (V.pure rfl) (fun a hf => ?_)
  refine R.nil ?_
  refine X.then_ ?_
  refine C.cond hf (b := decide ((l.length : Int) > most)) rfl (fun hc => ?_) (fun hc => ?_)
  · replace h := h.1 hc
    refine wp_seq ?_
    refine R.list ?_
    refine S.val hf hs (v := .int .i64 2) rfl rfl rfl (V.pure rfl) (fun a hf => ?_)
    refine R.nil ?_
    refine X.then_ ?_
    refine wp_ret ?_
    refine X.then_ret ?_
    exact L.ret hf (run_results1 Try.results27 (ResIs.tmp hf rfl)) ⟨2, rfl, h, hs.nil⟩
  · replace h := h.2 hc
    refine wp_skip ?_
    refine X.then_ ?_
    refine wp_seq ?_
    refine wp_seq ?_
    refine R.list ?_
    refine S.val hf hs (v := .slice lA l.length lC) rfl rfl rfl (V.pure rfl) (fun a hf => ?_)
    refine S.val hf hs (v := .int .i64 (l.length : Int)) rfl rfl rfl (V.len rfl rfl Try.runUnderlying32) (fun a hf => ?_)
    refine S.val hf hs (v := .int .i64 0) rfl rfl rfl (V.pure rfl) (fun a hf => ?_)
    refine R.nil ?_
    refine X.then_ ?_
    refine wp_block ?_
    have hlenk1 := hv_l.len64
    refine C.range (fun (ll : List Batch) a w => ∃ (k1 : Nat) , l.drop k1 = ll ∧ k1 + ll.length = l.length ∧ forIn' (fun k x (s : Unit) next => M_ref10_checkBatches_L1 l Q k x (next ())) (fun (s : Unit) => Q 0) ll k1 () ∧ FrOk 51 [(15, .int .i64 (k1 : Int)), (0, .slice lA l.length lC), (13, .slice lA l.length lC), (14, .int .i64 (l.length : Int))] a ∧ Sat w0 none_ [] w) l ⟨0, rfl, Nat.zero_add _, h, ((((hf.nil.cons (hf.get 14 _ rfl)).cons (hf.get 13 _ rfl)).cons (hf.get 0 _ rfl)).cons (hf.get 15 _ rfl)), hs⟩ ?_
    clear h hf hs
    rintro llk1 a w ⟨k1, hlk1, hkk1, h, hf, hs⟩
    cases llk1 with
    | nil =>
      have hc := range_done hkk1
      replace h : Q 0 := h
      refine wp_seq ?_
      refine R.list ?_
      refine S.val hf hs (v := .bool false) rfl rfl rfl (V.cmp false rfl rfl rfl rfl hc) (fun a hf => ?_)
      refine R.nil ?_
      refine X.then_ ?_
      refine wp_seq ?_
      refine C.no hf rfl ?_
      refine wp_exit ?_
      refine X.then_exit ?_
      refine X.then_exit ?_
      refine X.blk_exit ?_
      refine X.then_ ?_
      refine wp_seq ?_
      refine R.list ?_
      refine S.val hf hs (v := .int .i64 0) rfl rfl rfl (V.pure rfl) (fun a hf => ?_)
      refine R.nil ?_
      refine X.then_ ?_
      refine wp_ret ?_
      exact L.ret hf (run_results1 Try.results27 (ResIs.tmp hf rfl)) ⟨0, rfl, h, hs.nil⟩
    | cons xk1 llk1 =>
      have hltk1 := range_lt hkk1; have hc := range_go hkk1; have hxk1 := range_get hlk1
      obtain ⟨next1, hnext1⟩ : ∃ X : Prop, X = (forIn' (fun k x (s : Unit) next => M_ref10_checkBatches_L1 l Q k x (next ())) (fun (s : Unit) => Q 0) llk1 (k1 + 1) ()) := ⟨_, rfl⟩
      replace h : M_ref10_checkBatches_L1 l Q k1 xk1  next1 := by rw [hnext1]; exact h
      unfold M_ref10_checkBatches_L1 at h
      refine wp_seq ?_
      refine R.list ?_
      refine S.val hf hs (v := .bool true) rfl rfl rfl (V.cmp true rfl rfl rfl rfl hc) (fun a hf => ?_)
      refine R.nil ?_
      refine X.then_ ?_
      refine wp_seq ?_
      refine C.yes hf rfl ?_
      refine wp_skip ?_
      refine X.then_ ?_
      refine wp_seq ?_
      refine wp_block ?_
      refine wp_seq ?_
      refine R.list ?_
      refine S.val hf hs (v := .int .i64 (k1 : Int)) rfl rfl rfl (V.pure rfl) (fun a hf => ?_)
      refine S.val hf hs (v := elemPtr lA (k1 * 3)) rfl rfl rfl (V.index rfl rfl rfl Try.runUnderlying32 Try.sizeOf54 (hv_l.some_ (lt_of_get hxk1)) (Int.natCast_nonneg _) (lt_of_get hxk1) rfl) (fun a hf => ?_)
      refine S.val hf hs (v := .agg #[.string (ba xk1.Name), .int .i64 xk1.A, .int .i64 xk1.B]) rfl rfl rfl (V.loadEl (off := 0) (Ag.args _ _ _) (hv_l.flat hxk1) rfl rfl rfl Try.isAgg54 Try.sizeOf54 rfl rfl) (fun a hf => ?_)
      refine S.alloc hf hs rfl rfl rfl [.string (ba []), .int .i64 0, .int .i64 0] rfl Try.zeroValue54 rfl (fun g1 a w hf hs => ?_)
      refine S.val hf hs (v := .int .i64 (k1 : Int)) rfl rfl rfl (V.pure rfl) (fun a hf => ?_)
      refine S.storeBox 0 hf hs rfl rfl [.string (ba xk1.Name), .int .i64 xk1.A, .int .i64 xk1.B] [.string (ba xk1.Name), .int .i64 xk1.A, .int .i64 xk1.B] rfl rfl rfl rfl rfl Try.sizeOf54 rfl rfl rfl rfl (fun a w hf hs => ?_)
      refine R.nil ?_
      refine X.then_ ?_
      refine wp_seq ?_
      refine wp_block ?_
      refine wp_seq ?_
      refine R.list ?_
      refine S.val hf hs (v := .pointer (some ⟨g1, 0, none⟩)) rfl rfl rfl (V.fieldBox rfl rfl Try.runUnderlying54 rfl Try.sizeOf9 rfl rfl) (fun a hf => ?_)
      refine S.val hf hs (v := .string (ba xk1.Name)) rfl rfl rfl (V.loadBox 0 rfl rfl rfl Try.isAgg9 Try.sizeOf9 rfl rfl) (fun a hf => ?_)
      refine S.call hf rfl rfl rfl (call_fn (vs := [.string (ba xk1.Name)]) rfl rfl rfl Try.call36) (R_ref10_isWord xk1.Name _  _ h) (fun v a w' hf hr => ?_)
      obtain ⟨y1, rfl, h2, hs2⟩ := hr
      replace h := h2; replace hs := hs.call hs2; clear h2 hs2
      refine S.val hf hs (v := .bool (!y1)) rfl rfl rfl (V.pure rfl) (fun a hf => ?_)
      refine S.val hf hs (v := .bool (!y1)) rfl rfl rfl (V.pure rfl) (fun a hf => ?_)
      refine R.nil ?_
      refine X.then_ ?_
      refine C.cond hf (b := !y1) rfl (fun hc => ?_) (fun hc => ?_)
      · replace h := h.1 hc
        refine wp_seq ?_
        refine R.list ?_
        refine S.val hf hs (v := .int .i64 5) rfl rfl rfl (V.pure rfl) (fun a hf => ?_)
        refine R.nil ?_
        refine X.then_ ?_
        refine wp_ret ?_
        refine X.blk_ret ?_
        refine X.then_ret ?_
        refine X.blk_ret ?_
        refine X.then_ret ?_
        refine X.then_ret ?_
        refine X.blk_ret ?_
        refine X.then_ret ?_
        exact L.ret hf (run_results1 Try.results27 (ResIs.tmp hf rfl)) ⟨5, rfl, h, hs.nil⟩
      · replace h := h.2 hc
        refine wp_seq ?_
        refine C.cut (J := fun a w => ∃ (c1 : Bool), M_ref10_checkBatches_k2 l Q k1 xk1 next1 c1 ∧ FrOk 51 [(0, .slice lA l.length lC), (5, .int .i64 (k1 : Int)), (6, .pointer (some ⟨g1, 0, none⟩)), (13, .slice lA l.length lC), (14, .int .i64 (l.length : Int)), (15, .int .i64 (k1 : Int)), (25, .bool c1)] a ∧ Sat w0 none_ [hbox g1 54 [.string (ba xk1.Name), .int .i64 xk1.A, .int .i64 xk1.B]] w) ?_ ?_
        · rintro a w ⟨c1, h, hf, hs⟩
          unfold M_ref10_checkBatches_k2 at h
          refine C.cond hf (b := c1) rfl (fun hc => ?_) (fun hc => ?_)
          · replace h := h.1 hc
            refine wp_seq ?_
            refine R.list ?_
            refine S.val hf hs (v := .int .i64 1) rfl rfl rfl (V.pure rfl) (fun a hf => ?_)
            refine R.nil ?_
            refine X.then_ ?_
            refine wp_ret ?_
            refine X.blk_ret ?_
            refine X.then_ret ?_
            refine X.blk_ret ?_
            refine X.then_ret ?_
            refine X.then_ret ?_
            refine X.blk_ret ?_
            refine X.then_ret ?_
            exact L.ret hf (run_results1 Try.results27 (ResIs.tmp hf rfl)) ⟨1, rfl, h, hs.nil⟩
          · replace h := h.2 hc
            refine wp_skip ?_
            refine X.blk ?_
            refine X.then_ ?_
            refine wp_seq ?_
            refine R.list ?_
            refine S.val hf hs (v := .slice lA l.length lC) rfl rfl rfl (V.pure rfl) (fun a hf => ?_)
            refine S.val hf hs (v := .int .i64 (k1 : Int)) rfl rfl rfl (V.pure rfl) (fun a hf => ?_)
            obtain ⟨hp1, h⟩ := h
            refine S.val hf hs (v := .slice (segA lA lC ((0 : Int) : Int).toNat 3) (seg l (0 : Int) (k1 : Int)).length (lC - ((0 : Int) : Int).toNat)) rfl rfl rfl (V.slice rfl rfl rfl rfl Try.runUnderlying32 Try.sizeOf54 rfl rfl hp1 hv_l.cap (seg_length (by have := hp1.2.2; omega))) (fun a hf => ?_)
            refine S.val hf hs (v := .int .i64 ((seg l (0 : Int) (k1 : Int)).length : Int)) rfl rfl rfl (V.len rfl rfl Try.runUnderlying32) (fun a hf => ?_)
            refine S.val hf hs (v := .int .i64 0) rfl rfl rfl (V.pure rfl) (fun a hf => ?_)
            refine R.nil ?_
            refine X.then_ ?_
            refine wp_block ?_
            have hlenk3 := (View.sub hv_l hp1).len64
            refine C.range (fun (ll : List Batch) a w => ∃ (k3 : Nat) , (seg l (0 : Int) (k1 : Int)).drop k3 = ll ∧ k3 + ll.length = (seg l (0 : Int) (k1 : Int)).length ∧ forIn' (fun k x (s : Unit) next => M_ref10_checkBatches_L2 Q xk1 k x (next ())) (fun (s : Unit) => next1) ll k3 () ∧ FrOk 51 [(40, .int .i64 (k3 : Int)), (0, .slice lA l.length lC), (6, .pointer (some ⟨g1, 0, none⟩)), (13, .slice lA l.length lC), (14, .int .i64 (l.length : Int)), (15, .int .i64 (k1 : Int)), (38, .slice (segA lA lC ((0 : Int) : Int).toNat 3) (seg l (0 : Int) (k1 : Int)).length (lC - ((0 : Int) : Int).toNat)), (39, .int .i64 ((seg l (0 : Int) (k1 : Int)).length : Int))] a ∧ Sat w0 none_ [hbox g1 54 [.string (ba xk1.Name), .int .i64 xk1.A, .int .i64 xk1.B]] w) (seg l (0 : Int) (k1 : Int)) ⟨0, rfl, Nat.zero_add _, h, ((((((((hf.nil.cons (hf.get 39 _ rfl)).cons (hf.get 38 _ rfl)).cons (hf.get 15 _ rfl)).cons (hf.get 14 _ rfl)).cons (hf.get 13 _ rfl)).cons (hf.get 6 _ rfl)).cons (hf.get 0 _ rfl)).cons (hf.get 40 _ rfl)), hs⟩ ?_
            clear h hf hs
            rintro llk3 a w ⟨k3, hlk3, hkk3, h, hf, hs⟩
            cases llk3 with
            | nil =>
              have hc := range_done hkk3
              replace h : next1 := h
              refine wp_seq ?_
              refine R.list ?_
              refine S.val hf hs (v := .bool false) rfl rfl rfl (V.cmp false rfl rfl rfl rfl hc) (fun a hf => ?_)
              refine R.nil ?_
              refine X.then_ ?_
              refine wp_seq ?_
              refine C.no hf rfl ?_
              refine wp_exit ?_
              refine X.then_exit ?_
              refine X.then_exit ?_
              refine X.blk_exit ?_
              refine X.blk ?_
              refine X.then_ ?_
              refine R.list ?_
              refine S.val hf hs (v := .int .i64 ((k1 + 1 : Nat) : Int)) rfl rfl rfl (V.incr rfl rfl rfl hltk1 hlenk1) (fun a hf => ?_)
              refine S.val hf hs (v := .int .i64 ((k1 + 1 : Nat) : Int)) rfl rfl rfl (V.pure rfl) (fun a hf => ?_)
              refine R.nil ?_
              refine X.then_ ?_
              exact ⟨xk1, llk1, rfl, k1 + 1, range_drop hlk1, range_len hkk1, (by rw [hnext1] at h; exact h), ((((hf.nil.cons (hf.get 14 _ rfl)).cons (hf.get 13 _ rfl)).cons (hf.get 0 _ rfl)).cons (hf.get 15 _ rfl)), hs.drop⟩
            | cons xk3 llk3 =>
              have hltk3 := range_lt hkk3; have hc := range_go hkk3; have hxk3 := range_get hlk3
              obtain ⟨next2, hnext2⟩ : ∃ X : Prop, X = (forIn' (fun k x (s : Unit) next => M_ref10_checkBatches_L2 Q xk1 k x (next ())) (fun (s : Unit) => next1) llk3 (k3 + 1) ()) := ⟨_, rfl⟩
              replace h : M_ref10_checkBatches_L2 Q xk1 k3 xk3  next2 := by rw [hnext2]; exact h
              unfold M_ref10_checkBatches_L2 at h
              refine wp_seq ?_
              refine R.list ?_
              refine S.val hf hs (v := .bool true) rfl rfl rfl (V.cmp true rfl rfl rfl rfl hc) (fun a hf => ?_)
              refine R.nil ?_
              refine X.then_ ?_
              refine wp_seq ?_
              refine C.yes hf rfl ?_
              refine wp_skip ?_
              refine X.then_ ?_
              refine wp_seq ?_
              refine wp_block ?_
              refine wp_seq ?_
              refine R.list ?_
              refine S.val hf hs (v := elemPtr (segA lA lC ((0 : Int) : Int).toNat 3) (k3 * 3)) rfl rfl rfl (V.index rfl rfl rfl Try.runUnderlying32 Try.sizeOf54 ((View.sub hv_l hp1).some_ (lt_of_get hxk3)) (Int.natCast_nonneg _) (lt_of_get hxk3) rfl) (fun a hf => ?_)
              refine S.val hf hs (v := .agg #[.string (ba xk3.Name), .int .i64 xk3.A, .int .i64 xk3.B]) rfl rfl rfl (V.loadEl (off := 0) (Ag.args _ _ _) ((View.sub hv_l hp1).flat hxk3) rfl rfl rfl Try.isAgg54 Try.sizeOf54 rfl rfl) (fun a hf => ?_)
              refine S.alloc hf hs rfl rfl rfl [.string (ba []), .int .i64 0, .int .i64 0] rfl Try.zeroValue54 rfl (fun g2 a w hf hs => ?_)
              refine S.storeBox 0 hf hs rfl rfl [.string (ba xk3.Name), .int .i64 xk3.A, .int .i64 xk3.B] [.string (ba xk3.Name), .int .i64 xk3.A, .int .i64 xk3.B] rfl rfl rfl rfl rfl Try.sizeOf54 rfl rfl rfl rfl (fun a w hf hs => ?_)
              refine R.nil ?_
              refine X.then_ ?_
              refine wp_seq ?_
              refine R.list ?_
              refine S.val hf hs (v := .pointer (some ⟨g2, 0, none⟩)) rfl rfl rfl (V.fieldBox rfl rfl Try.runUnderlying54 rfl Try.sizeOf9 rfl rfl) (fun a hf => ?_)
              refine S.val hf hs (v := .string (ba xk3.Name)) rfl rfl rfl (V.loadBox 0 rfl rfl rfl Try.isAgg9 Try.sizeOf9 rfl rfl) (fun a hf => ?_)
              refine S.val hf hs (v := .pointer (some ⟨g1, 0, none⟩)) rfl rfl rfl (V.fieldBox rfl rfl Try.runUnderlying54 rfl Try.sizeOf9 rfl rfl) (fun a hf => ?_)
              refine S.val hf hs (v := .string (ba xk1.Name)) rfl rfl rfl (V.loadBox 1 rfl rfl rfl Try.isAgg9 Try.sizeOf9 rfl rfl) (fun a hf => ?_)
              refine S.val hf hs (v := .bool (xk3.Name == xk1.Name)) rfl rfl rfl (V.strCmp (xk3.Name == xk1.Name) rfl rfl rfl rfl) (fun a hf => ?_)
              refine R.nil ?_
              refine X.then_ ?_
              refine C.cond hf (b := xk3.Name == xk1.Name) rfl (fun hc => ?_) (fun hc => ?_)
              · replace h := h.1 hc
                refine wp_seq ?_
                refine R.list ?_
                refine S.val hf hs (v := .int .i64 7) rfl rfl rfl (V.pure rfl) (fun a hf => ?_)
                refine R.nil ?_
                refine X.then_ ?_
                refine wp_ret ?_
                refine X.blk_ret ?_
                refine X.then_ret ?_
                refine X.then_ret ?_
                refine X.blk_ret ?_
                refine X.blk_ret ?_
                refine X.then_ret ?_
                refine X.then_ret ?_
                refine X.blk_ret ?_
                refine X.then_ret ?_
                exact L.ret hf (run_results1 Try.results27 (ResIs.tmp hf rfl)) ⟨7, rfl, h, hs.nil⟩
              · replace h := h.2 hc
                refine wp_skip ?_
                refine X.blk ?_
                refine X.then_ ?_
                refine R.list ?_
                refine S.val hf hs (v := .int .i64 ((k3 + 1 : Nat) : Int)) rfl rfl rfl (V.incr rfl rfl rfl hltk3 hlenk3) (fun a hf => ?_)
                refine S.val hf hs (v := .int .i64 ((k3 + 1 : Nat) : Int)) rfl rfl rfl (V.pure rfl) (fun a hf => ?_)
                refine R.nil ?_
                refine X.then_ ?_
                exact ⟨xk3, llk3, rfl, k3 + 1, range_drop hlk3, range_len hkk3, (by rw [hnext2] at h; exact h), ((((((((hf.nil.cons (hf.get 39 _ rfl)).cons (hf.get 38 _ rfl)).cons (hf.get 15 _ rfl)).cons (hf.get 14 _ rfl)).cons (hf.get 13 _ rfl)).cons (hf.get 6 _ rfl)).cons (hf.get 0 _ rfl)).cons (hf.get 40 _ rfl)), hs.drop⟩
        · skip
          refine R.list ?_
          refine S.val hf hs (v := .pointer (some ⟨g1, 1, none⟩)) rfl rfl rfl (V.fieldBox rfl rfl Try.runUnderlying54 rfl Try.sizeOf3 rfl rfl) (fun a hf => ?_)
          refine S.val hf hs (v := .int .i64 xk1.A) rfl rfl rfl (V.loadBox 0 rfl rfl rfl Try.isAgg3 Try.sizeOf3 rfl rfl) (fun a hf => ?_)
          refine S.callv hf rfl rfl rfl (call_fn (vs := [.int .i64 xk1.A, .int .i64 0, .int .i64 1000000]) rfl rfl rfl Try.call20) (C_ref10_within xk1.A 0 1000000 _ ) (fun a w hf hs' => ?_)
          replace hs := hs.call hs'; clear hs'
          refine S.val hf hs (v := .bool (!(within xk1.A 0 1000000))) rfl rfl rfl (V.pure rfl) (fun a hf => ?_)
          refine S.split hf hs (b := !(within xk1.A 0 1000000)) rfl rfl rfl (V.pure rfl) (fun hc a hf => ?_) (fun hc a hf => ?_)
          · replace h := h.1 hc
            refine S.skip hf rfl rfl rfl (fun a hf => ?_)
            refine S.skip hf rfl rfl rfl (fun a hf => ?_)
            refine S.skip hf rfl rfl rfl (fun a hf => ?_)
            refine S.skip hf rfl rfl rfl (fun a hf => ?_)
            refine S.val hf hs (v := .bool true) rfl rfl rfl (V.pure rfl) (fun a hf => ?_)
            refine S.val hf hs (v := .bool true) rfl rfl rfl (V.pure rfl) (fun a hf => ?_)
            refine R.nil ?_
            refine X.then_ ?_
            exact ⟨true, h, (((((((hf.nil.cons (hf.get 25 _ rfl)).cons (hf.get 15 _ rfl)).cons (hf.get 14 _ rfl)).cons (hf.get 13 _ rfl)).cons (hf.get 6 _ rfl)).cons (hf.get 5 _ rfl)).cons (hf.get 0 _ rfl)), hs⟩
          · replace h := h.2 hc
            refine S.val hf hs (v := .pointer (some ⟨g1, 2, none⟩)) rfl rfl rfl (V.fieldBox rfl rfl Try.runUnderlying54 rfl Try.sizeOf3 rfl rfl) (fun a hf => ?_)
            refine S.val hf hs (v := .int .i64 xk1.B) rfl rfl rfl (V.loadBox 0 rfl rfl rfl Try.isAgg3 Try.sizeOf3 rfl rfl) (fun a hf => ?_)
            refine S.callv hf rfl rfl rfl (call_fn (vs := [.int .i64 xk1.B, .int .i64 0, .int .i64 1000000]) rfl rfl rfl Try.call20) (C_ref10_within xk1.B 0 1000000 _ ) (fun a w hf hs' => ?_)
            replace hs := hs.call hs'; clear hs'
            refine S.val hf hs (v := .bool (!(within xk1.B 0 1000000))) rfl rfl rfl (V.pure rfl) (fun a hf => ?_)
            refine S.val hf hs (v := .bool (!(within xk1.B 0 1000000))) rfl rfl rfl (V.pure rfl) (fun a hf => ?_)
            refine S.val hf hs (v := .bool (!(within xk1.B 0 1000000))) rfl rfl rfl (V.pure rfl) (fun a hf => ?_)
            refine R.nil ?_
            refine X.then_ ?_
            exact ⟨(!(within xk1.B 0 1000000)), h, (((((((hf.nil.cons (hf.get 25 _ rfl)).cons (hf.get 15 _ rfl)).cons (hf.get 14 _ rfl)).cons (hf.get 13 _ rfl)).cons (hf.get 6 _ rfl)).cons (hf.get 5 _ rfl)).cons (hf.get 0 _ rfl)), hs⟩

set_option linter.unusedVariables false
def M_mount_Makespan (l : (List Batch)) (order : (List Int)) (Q : Int → Int → Prop) : Prop :=
  M_mount_checkLots l 200 fun y1 => cnd (y1 != 0) (Q 0 y1) (M_mount_isOrder order (l.length : Int) fun y2 => cnd (!y2) (Q 0 3) (M_mount_makespan l order fun y3 => Q y3 0))
set_option maxHeartbeats 1000000 in
theorem R_mount_Makespan (l : (List Batch)) (order : (List Int)) (w0 : World) (lA : Option Addr) (lC : Nat) (hv_l : View w0 (old w0 none_) lA lC l) (orderA : Option Addr) (orderC : Nat) (hv_order : View w0 (old w0 none_) orderA orderC order) (Q : Int → Int → Prop) (h : M_mount_Makespan l order Q) :
    Ret Try.prog 12 #[.slice lA l.length lC, .slice orderA order.length orderC] w0 fun v w' => ∃ (r0 : Int) (r1 : Int), v = .tuple #[.int .i64 r0, .int .i64 r1] ∧ Q r0 r1 ∧ Sat w0 none_ [] w' := by
  refine fn_enter Try.func12 rfl Try.ntmps12 rfl (fs := [(0, .slice lA l.length lC), (1, .slice orderA order.length orderC)]) rfl (fun a hf => ?_)
  have hs := Sat.start w0 none_
  unfold M_mount_Makespan at h
  refine wp_seq ?_
  refine R.list ?_
  refine S.val hf hs (v := .int .i64 0) rfl rfl rfl (V.pure rfl) (fun a hf => ?_)
  refine S.val hf hs (v := .int .i64 0) rfl rfl rfl (V.pure rfl) (fun a hf => ?_)
  refine R.nil ?_
  refine X.then_ ?_
  refine wp_seq ?_
  refine wp_seq ?_
  refine R.list ?_
  refine S.val hf hs (v := .slice lA l.length lC) rfl rfl rfl (V.pure rfl) (fun a hf => ?_)
  refine S.call hf rfl rfl rfl (call_fn (vs := [.slice lA l.length lC, .int .i64 200]) rfl rfl rfl Try.call24) (R_mount_checkLots l 200 _ lA lC ((Ag.args _ _ _).view hv_l hs) _ h) (fun v a w' hf hr => ?_)
  obtain ⟨y1, rfl, h2, hs2⟩ := hr
  replace h := h2; replace hs := hs.call hs2; clear h2 hs2
  refine S.val hf hs (v := .int .i64 y1) rfl rfl rfl (V.pure rfl) (fun a hf => ?_)
  refine R.nil ?_
  refine X.then_ ?_
  refine wp_seq ?_
  refine R.list ?_
  refine S.val hf hs (v := .int .i64 y1) rfl rfl rfl (V.pure rfl) (fun a hf => ?_)
  refine S.val hf hs (v := .bool (y1 != 0)) rfl rfl rfl (V.pure rfl) (fun a hf => ?_)
  refine R.nil ?_
  refine X.then_ ?_
  refine C.cond hf (b := y1 != 0) rfl (fun hc => ?_) (fun hc => ?_)
  · replace h := h.1 hc
    refine wp_seq ?_
    refine R.list ?_
    refine S.val hf hs (v := .int .i64 y1) rfl rfl rfl (V.pure rfl) (fun a hf => ?_)
    refine S.val hf hs (v := .int .i64 0) rfl rfl rfl (V.pure rfl) (fun a hf => ?_)
    refine S.val hf hs (v := .int .i64 y1) rfl rfl rfl (V.pure rfl) (fun a hf => ?_)
    refine R.nil ?_
    refine X.then_ ?_
    refine wp_ret ?_
    refine X.then_ret ?_
    exact L.ret hf (run_results2 Try.results12 (ResIs.tmp hf rfl) (ResIs.tmp hf rfl)) ⟨0, y1, rfl, h, hs.nil⟩
  · replace h := h.2 hc
    refine wp_skip ?_
    refine X.then_ ?_
    refine wp_seq ?_
    refine wp_seq ?_
    refine R.list ?_
    refine S.val hf hs (v := .slice orderA order.length orderC) rfl rfl rfl (V.pure rfl) (fun a hf => ?_)
    refine S.val hf hs (v := .slice lA l.length lC) rfl rfl rfl (V.pure rfl) (fun a hf => ?_)
    refine S.val hf hs (v := .int .i64 (l.length : Int)) rfl rfl rfl (V.len rfl rfl Try.runUnderlying32) (fun a hf => ?_)
    refine S.call hf rfl rfl rfl (call_fn (vs := [.slice orderA order.length orderC, .int .i64 (l.length : Int)]) rfl rfl rfl Try.call25) (R_mount_isOrder order (l.length : Int) _ orderA orderC ((Ag.args _ _ _).view hv_order hs) _ h) (fun v a w' hf hr => ?_)
    obtain ⟨y2, rfl, h2, hs2⟩ := hr
    replace h := h2; replace hs := hs.call hs2; clear h2 hs2
    refine S.val hf hs (v := .bool (!y2)) rfl rfl rfl (V.pure rfl) (fun a hf => ?_)
    refine R.nil ?_
    refine X.then_ ?_
    refine C.cond hf (b := !y2) rfl (fun hc => ?_) (fun hc => ?_)
    · replace h := h.1 hc
      refine wp_seq ?_
      refine R.list ?_
      refine S.val hf hs (v := .int .i64 0) rfl rfl rfl (V.pure rfl) (fun a hf => ?_)
      refine S.val hf hs (v := .int .i64 3) rfl rfl rfl (V.pure rfl) (fun a hf => ?_)
      refine R.nil ?_
      refine X.then_ ?_
      refine wp_ret ?_
      refine X.then_ret ?_
      exact L.ret hf (run_results2 Try.results12 (ResIs.tmp hf rfl) (ResIs.tmp hf rfl)) ⟨0, 3, rfl, h, hs.nil⟩
    · replace h := h.2 hc
      refine wp_skip ?_
      refine X.then_ ?_
      refine wp_seq ?_
      refine R.list ?_
      refine S.val hf hs (v := .slice lA l.length lC) rfl rfl rfl (V.pure rfl) (fun a hf => ?_)
      refine S.val hf hs (v := .slice orderA order.length orderC) rfl rfl rfl (V.pure rfl) (fun a hf => ?_)
      refine S.call hf rfl rfl rfl (call_fn (vs := [.slice lA l.length lC, .slice orderA order.length orderC]) rfl rfl rfl Try.call26) (R_mount_makespan l order _ lA lC ((Ag.args _ _ _).view hv_l hs) orderA orderC ((Ag.args _ _ _).view hv_order hs) _ h) (fun v a w' hf hr => ?_)
      obtain ⟨y3, rfl, h2, hs2⟩ := hr
      replace h := h2; replace hs := hs.call hs2; clear h2 hs2
      refine S.val hf hs (v := .int .i64 y3) rfl rfl rfl (V.pure rfl) (fun a hf => ?_)
      refine S.val hf hs (v := .int .i64 0) rfl rfl rfl (V.pure rfl) (fun a hf => ?_)
      refine R.nil ?_
      refine X.then_ ?_
      refine wp_ret ?_
      exact L.ret hf (run_results2 Try.results12 (ResIs.tmp hf rfl) (ResIs.tmp hf rfl)) ⟨y3, 0, rfl, h, hs.nil⟩

set_option linter.unusedVariables false
def M_ref10_Makespan (l : (List Batch)) (order : (List Int)) (Q : Int → Int → Prop) : Prop :=
  M_ref10_checkBatches l 200 fun y1 => cnd (y1 != 0) (Q 0 y1) (M_ref10_IsOrder order (l.length : Int) fun y2 => cnd (!y2) (Q 0 3) (M_ref10_makespan l order fun y3 => Q y3 0))
set_option maxHeartbeats 1000000 in
theorem R_ref10_Makespan (l : (List Batch)) (order : (List Int)) (w0 : World) (lA : Option Addr) (lC : Nat) (hv_l : View w0 (old w0 none_) lA lC l) (orderA : Option Addr) (orderC : Nat) (hv_order : View w0 (old w0 none_) orderA orderC order) (Q : Int → Int → Prop) (h : M_ref10_Makespan l order Q) :
    Ret Try.prog 13 #[.slice lA l.length lC, .slice orderA order.length orderC] w0 fun v w' => ∃ (r0 : Int) (r1 : Int), v = .tuple #[.int .i64 r0, .int .i64 r1] ∧ Q r0 r1 ∧ Sat w0 none_ [] w' := by
  refine fn_enter Try.func13 rfl Try.ntmps13 rfl (fs := [(0, .slice lA l.length lC), (1, .slice orderA order.length orderC)]) rfl (fun a hf => ?_)
  have hs := Sat.start w0 none_
  unfold M_ref10_Makespan at h
  refine wp_seq ?_
  refine R.list ?_
  refine S.val hf hs (v := .int .i64 0) rfl rfl rfl (V.pure rfl) (fun a hf => ?_)
  refine S.val hf hs (v := .int .i64 0) rfl rfl rfl (V.pure rfl) (fun a hf => ?_)
  refine R.nil ?_
  refine X.then_ ?_
  refine wp_seq ?_
  refine wp_seq ?_
  refine R.list ?_
  refine S.val hf hs (v := .slice lA l.length lC) rfl rfl rfl (V.pure rfl) (fun a hf => ?_)
  refine S.call hf rfl rfl rfl (call_fn (vs := [.slice lA l.length lC, .int .i64 200]) rfl rfl rfl Try.call27) (R_ref10_checkBatches l 200 _ lA lC ((Ag.args _ _ _).view hv_l hs) _ h) (fun v a w' hf hr => ?_)
  obtain ⟨y1, rfl, h2, hs2⟩ := hr
  replace h := h2; replace hs := hs.call hs2; clear h2 hs2
  refine S.val hf hs (v := .int .i64 y1) rfl rfl rfl (V.pure rfl) (fun a hf => ?_)
  refine R.nil ?_
  refine X.then_ ?_
  refine wp_seq ?_
  refine R.list ?_
  refine S.val hf hs (v := .int .i64 y1) rfl rfl rfl (V.pure rfl) (fun a hf => ?_)
  refine S.val hf hs (v := .bool (y1 != 0)) rfl rfl rfl (V.pure rfl) (fun a hf => ?_)
  refine R.nil ?_
  refine X.then_ ?_
  refine C.cond hf (b := y1 != 0) rfl (fun hc => ?_) (fun hc => ?_)
  · replace h := h.1 hc
    refine wp_seq ?_
    refine R.list ?_
    refine S.val hf hs (v := .int .i64 y1) rfl rfl rfl (V.pure rfl) (fun a hf => ?_)
    refine S.val hf hs (v := .int .i64 0) rfl rfl rfl (V.pure rfl) (fun a hf => ?_)
    refine S.val hf hs (v := .int .i64 y1) rfl rfl rfl (V.pure rfl) (fun a hf => ?_)
    refine R.nil ?_
    refine X.then_ ?_
    refine wp_ret ?_
    refine X.then_ret ?_
    exact L.ret hf (run_results2 Try.results13 (ResIs.tmp hf rfl) (ResIs.tmp hf rfl)) ⟨0, y1, rfl, h, hs.nil⟩
  · replace h := h.2 hc
    refine wp_skip ?_
    refine X.then_ ?_
    refine wp_seq ?_
    refine wp_seq ?_
    refine R.list ?_
    refine S.val hf hs (v := .slice orderA order.length orderC) rfl rfl rfl (V.pure rfl) (fun a hf => ?_)
    refine S.val hf hs (v := .slice lA l.length lC) rfl rfl rfl (V.pure rfl) (fun a hf => ?_)
    refine S.val hf hs (v := .int .i64 (l.length : Int)) rfl rfl rfl (V.len rfl rfl Try.runUnderlying32) (fun a hf => ?_)
    refine S.call hf rfl rfl rfl (call_fn (vs := [.slice orderA order.length orderC, .int .i64 (l.length : Int)]) rfl rfl rfl Try.call28) (R_ref10_IsOrder order (l.length : Int) _ orderA orderC ((Ag.args _ _ _).view hv_order hs) _ h) (fun v a w' hf hr => ?_)
    obtain ⟨y2, rfl, h2, hs2⟩ := hr
    replace h := h2; replace hs := hs.call hs2; clear h2 hs2
    refine S.val hf hs (v := .bool (!y2)) rfl rfl rfl (V.pure rfl) (fun a hf => ?_)
    refine R.nil ?_
    refine X.then_ ?_
    refine C.cond hf (b := !y2) rfl (fun hc => ?_) (fun hc => ?_)
    · replace h := h.1 hc
      refine wp_seq ?_
      refine R.list ?_
      refine S.val hf hs (v := .int .i64 0) rfl rfl rfl (V.pure rfl) (fun a hf => ?_)
      refine S.val hf hs (v := .int .i64 3) rfl rfl rfl (V.pure rfl) (fun a hf => ?_)
      refine R.nil ?_
      refine X.then_ ?_
      refine wp_ret ?_
      refine X.then_ret ?_
      exact L.ret hf (run_results2 Try.results13 (ResIs.tmp hf rfl) (ResIs.tmp hf rfl)) ⟨0, 3, rfl, h, hs.nil⟩
    · replace h := h.2 hc
      refine wp_skip ?_
      refine X.then_ ?_
      refine wp_seq ?_
      refine R.list ?_
      refine S.val hf hs (v := .slice lA l.length lC) rfl rfl rfl (V.pure rfl) (fun a hf => ?_)
      refine S.val hf hs (v := .slice orderA order.length orderC) rfl rfl rfl (V.pure rfl) (fun a hf => ?_)
      refine S.call hf rfl rfl rfl (call_fn (vs := [.slice lA l.length lC, .slice orderA order.length orderC]) rfl rfl rfl Try.call29) (R_ref10_makespan l order _ lA lC ((Ag.args _ _ _).view hv_l hs) orderA orderC ((Ag.args _ _ _).view hv_order hs) _ h) (fun v a w' hf hr => ?_)
      obtain ⟨y3, rfl, h2, hs2⟩ := hr
      replace h := h2; replace hs := hs.call hs2; clear h2 hs2
      refine S.val hf hs (v := .int .i64 y3) rfl rfl rfl (V.pure rfl) (fun a hf => ?_)
      refine S.val hf hs (v := .int .i64 0) rfl rfl rfl (V.pure rfl) (fun a hf => ?_)
      refine R.nil ?_
      refine X.then_ ?_
      refine wp_ret ?_
      exact L.ret hf (run_results2 Try.results13 (ResIs.tmp hf rfl) (ResIs.tmp hf rfl)) ⟨y3, 0, rfl, h, hs.nil⟩

set_option linter.unusedVariables false
def M_clone_int (s_ : (List Int)) (Q : (List Int) → Prop) : Prop :=
  nilq s_ fun b1 => cnd b1 (Q ([] : List Int)) (must (room (([] : List Int) ++ s_).length 8) (Q (([] : List Int) ++ s_)))
set_option maxHeartbeats 1000000 in
theorem R_clone_int (s_ : (List Int)) (w0 : World) (s_A : Option Addr) (s_C : Nat) (hv_s_ : View w0 (old w0 none_) s_A s_C s_) (Q : (List Int) → Prop) (h : M_clone_int s_ Q) :
    Ret Try.prog 32 #[.slice s_A s_.length s_C] w0 fun v w' => ∃ (r0 : (List Int)) (r0A : Option Addr) (r0C : Nat), v = .slice r0A r0.length r0C ∧ Q r0 ∧ Sat w0 none_ [hown 3 r0A r0C r0] w' := by
  refine fn_enter Try.func32 rfl Try.ntmps32 rfl (fs := [(0, .slice s_A s_.length s_C)]) rfl (fun a hf => ?_)
  have hs := Sat.start w0 none_
  unfold M_clone_int at h
  refine wp_seq ?_
  refine R.list ?_
  refine S.val hf hs (v := .slice none 0 0) rfl rfl rfl (V.pure rfl) (fun a hf => ?_)
  refine R.nil ?_
  refine X.then_ ?_
  refine wp_seq ?_
  refine wp_seq ?_
  refine R.list ?_
  refine S.val hf hs (v := .slice s_A s_.length s_C) rfl rfl rfl (V.pure rfl) (fun a hf => ?_)
  obtain ⟨b1, hb1⟩ : ∃ b : Bool, b = Option.isNone s_A := ⟨_, rfl⟩
  replace h := h b1 (fun e => ((Ag.args _ _ _).view hv_s_ hs).nil_of (hb1.symm.trans e))
  refine S.val hf hs (v := .bool b1) rfl rfl rfl (V.eqNil b1 rfl rfl rfl Try.underlying22 (by kernel_rfl) hb1) (fun a hf => ?_)
  refine R.nil ?_
  refine X.then_ ?_
  refine C.cond hf (b := b1) rfl (fun hc => ?_) (fun hc => ?_)
  · replace h := h.1 hc
    refine wp_seq ?_
    refine R.list ?_
    refine S.val hf hs (v := .slice none 0 0) rfl rfl rfl (V.pure rfl) (fun a hf => ?_)
    refine R.nil ?_
    refine X.then_ ?_
    refine wp_ret ?_
    refine X.then_ret ?_
    replace hs := hs.nilOwn (α := Int) 3
    replace hs := hs.take 1
    exact L.ret hf (run_results1 Try.results32 (ResIs.tmp hf rfl)) ⟨([] : List Int), none, 0, rfl, h, hs⟩
  · replace h := h.2 hc
    refine wp_skip ?_
    refine X.then_ ?_
    refine wp_seq ?_
    refine R.list ?_
    refine S.buildEmpty (α := Int) hf hs rfl rfl rfl rfl Try.runUnderlying22 Try.sizeOf3 (fun A1 a w hf hs => ?_)
    refine S.val hf hs (v := .slice s_A s_.length s_C) rfl rfl rfl (V.pure rfl) (fun a hf => ?_)
    obtain ⟨hroom, h⟩ := h
    refine S.appendAny 0 hf hs rfl rfl rfl rfl rfl rfl rfl Try.underlying22 info3 rfl hroom ((Ag.args _ _ _).view hv_s_ hs) (fun A2 C1 a w hf hs => ?_)
    refine S.val hf hs (v := .slice A2 (([] : List Int) ++ s_).length C1) rfl rfl rfl (V.pure rfl) (fun a hf => ?_)
    refine R.nil ?_
    refine X.then_ ?_
    refine wp_ret ?_
    replace hs := hs.take 1
    exact L.ret hf (run_results1 Try.results32 (ResIs.tmp hf rfl)) ⟨(([] : List Int) ++ s_), A2, C1, rfl, h, hs⟩

set_option linter.unusedVariables false
def M_Best1_k1 (order : (List Int)) (least : Int) (best : (List Int)) (Q : Int → (List Int) → Prop) (y1 : Int) (c1 : Bool) : Prop :=
  cnd c1 (M_clone_int order fun y2 => Q y1 y2) (Q least best)
def M_Best1 (order : (List Int)) (l : (List Batch)) (least : Int) (best : (List Int)) (Q : Int → (List Int) → Prop) : Prop :=
  M_mount_makespan l order fun y1 => cnd (decide (least < 0)) (M_Best1_k1 order least best Q y1 true) (M_Best1_k1 order least best Q y1 (decide (y1 < least)))
set_option maxHeartbeats 1000000 in
theorem R_Best1 (order : (List Int)) (l : (List Batch)) (least : Int) (best : (List Int)) (w0 : World) (F0 : Nat → Prop) (orderA : Option Addr) (orderC : Nat) (hv_order : View w0 (old w0 F0) orderA orderC order) (lA : Option Addr) (lC : Nat) (hv_l : View w0 (old w0 F0) lA lC l) (lg : Nat) (hb_l : ElemAt w0 (old w0 F0) (some ⟨lg, 0, none⟩) 0 [.slice lA l.length lC]) (leastg : Nat) (bestg : Nat) (bestA : Option Addr) (bestC : Nat) (hs0 : Sat w0 F0 [hbox leastg 3 [.int .i64 least], hbox bestg 22 [.slice bestA best.length bestC], hown 3 bestA bestC best] w0) (Q : Int → (List Int) → Prop) (h : M_Best1 order l least best Q) :
    Ret Try.prog 31 #[.slice orderA order.length orderC, .pointer (some ⟨lg, 0, none⟩), .pointer (some ⟨leastg, 0, none⟩), .pointer (some ⟨bestg, 0, none⟩)] w0 fun v w' => ∃ (least1 : Int) (best1 : (List Int)) (best1A : Option Addr) (best1C : Nat), v = .tuple #[] ∧ Q least1 best1 ∧ Sat w0 F0 [hbox leastg 3 [.int .i64 least1], hbox bestg 22 [.slice best1A best1.length best1C], hown 3 best1A best1C best1] w' := by
  refine fn_enter Try.func31 rfl Try.ntmps31 rfl (fs := [(0, .slice orderA order.length orderC), (1, .pointer (some ⟨lg, 0, none⟩)), (2, .pointer (some ⟨leastg, 0, none⟩)), (3, .pointer (some ⟨bestg, 0, none⟩))]) rfl (fun a hf => ?_)
  have hs := hs0
  unfold M_Best1 at h
  refine wp_seq ?_
  refine R.list ?_
  refine S.val hf hs (v := .slice lA l.length lC) rfl rfl rfl (V.loadAt0 (off := 0) (Ag.args _ _ _) hb_l rfl rfl Try.isAgg32 Try.sizeOf32 rfl rfl) (fun a hf => ?_)
  refine S.val hf hs (v := .slice orderA order.length orderC) rfl rfl rfl (V.pure rfl) (fun a hf => ?_)
  refine S.call hf rfl rfl rfl (call_fn (vs := [.slice lA l.length lC, .slice orderA order.length orderC]) rfl rfl rfl Try.call26) (R_mount_makespan l order _ lA lC ((Ag.args _ _ _).view hv_l hs) orderA orderC ((Ag.args _ _ _).view hv_order hs) _ h) (fun v a w' hf hr => ?_)
  obtain ⟨y1, rfl, h2, hs2⟩ := hr
  replace h := h2; replace hs := hs.call hs2; clear h2 hs2
  refine S.val hf hs (v := .int .i64 y1) rfl rfl rfl (V.pure rfl) (fun a hf => ?_)
  refine R.nil ?_
  refine X.then_ ?_
  refine wp_seq ?_
  refine C.cut (J := fun a w => ∃ (c1 : Bool), M_Best1_k1 order least best Q y1 c1 ∧ FrOk 19 [(0, .slice orderA order.length orderC), (2, .pointer (some ⟨leastg, 0, none⟩)), (3, .pointer (some ⟨bestg, 0, none⟩)), (5, .int .i64 y1), (15, .bool c1)] a ∧ Sat w0 F0 [hbox leastg 3 [.int .i64 least], hbox bestg 22 [.slice bestA best.length bestC], hown 3 bestA bestC best] w) ?_ ?_
  · rintro a w ⟨c1, h, hf, hs⟩
    unfold M_Best1_k1 at h
    refine C.cond hf (b := c1) rfl (fun hc => ?_) (fun hc => ?_)
    · replace h := h.1 hc
      refine R.list ?_
      refine S.val hf hs (v := .slice orderA order.length orderC) rfl rfl rfl (V.pure rfl) (fun a hf => ?_)
      refine S.call hf rfl rfl rfl (call_fn (vs := [.slice orderA order.length orderC]) rfl rfl rfl Try.call32) (R_clone_int order _ orderA orderC ((Ag.args _ _ _).view hv_order hs) _ h) (fun v a w' hf hr => ?_)
      obtain ⟨y2, y2A, y2C, rfl, h2, hs2⟩ := hr
      replace h := h2; replace hs := hs.call hs2; clear h2 hs2
      refine S.val hf hs (v := .int .i64 y1) rfl rfl rfl (V.pure rfl) (fun a hf => ?_)
      refine S.storeBox 2 hf hs rfl rfl [.slice y2A y2.length y2C] [.slice y2A y2.length y2C] rfl rfl rfl rfl rfl Try.sizeOf22 rfl rfl rfl rfl (fun a w hf hs => ?_)
      refine S.storeBox 1 hf hs rfl rfl [.int .i64 y1] [.int .i64 y1] rfl rfl rfl rfl rfl Try.sizeOf3 rfl rfl rfl rfl (fun a w hf hs => ?_)
      refine R.nil ?_
      replace hs := hs.front 2 rfl
      replace hs := hs.front 2 rfl
      replace hs := hs.take 3
      exact L.end0 Try.results31 hf ⟨y1, y2, y2A, y2C, rfl, h, hs⟩
    · replace h := h.2 hc
      refine wp_skip ?_
      replace hs := hs.front 2 rfl
      replace hs := hs.front 2 rfl
      replace hs := hs.front 2 rfl
      replace hs := hs.take 3
      exact L.end0 Try.results31 hf ⟨least, best, bestA, bestC, rfl, h, hs⟩
  · skip
    refine R.list ?_
    refine S.val hf hs (v := .int .i64 least) rfl rfl rfl (V.loadBox 0 rfl rfl rfl Try.isAgg3 Try.sizeOf3 rfl rfl) (fun a hf => ?_)
    refine S.val hf hs (v := .bool (decide (least < 0))) rfl rfl rfl (V.pure rfl) (fun a hf => ?_)
    refine S.split hf hs (b := decide (least < 0)) rfl rfl rfl (V.pure rfl) (fun hc a hf => ?_) (fun hc a hf => ?_)
    · replace h := h.1 hc
      refine S.skip hf rfl rfl rfl (fun a hf => ?_)
      refine S.skip hf rfl rfl rfl (fun a hf => ?_)
      refine S.skip hf rfl rfl rfl (fun a hf => ?_)
      refine S.val hf hs (v := .bool true) rfl rfl rfl (V.pure rfl) (fun a hf => ?_)
      refine R.nil ?_
      refine X.then_ ?_
      exact ⟨true, h, (((((hf.nil.cons (hf.get 15 _ rfl)).cons (hf.get 5 _ rfl)).cons (hf.get 3 _ rfl)).cons (hf.get 2 _ rfl)).cons (hf.get 0 _ rfl)), hs⟩
    · replace h := h.2 hc
      refine S.val hf hs (v := .int .i64 y1) rfl rfl rfl (V.pure rfl) (fun a hf => ?_)
      refine S.val hf hs (v := .int .i64 least) rfl rfl rfl (V.loadBox 0 rfl rfl rfl Try.isAgg3 Try.sizeOf3 rfl rfl) (fun a hf => ?_)
      refine S.val hf hs (v := .bool (decide (y1 < least))) rfl rfl rfl (V.pure rfl) (fun a hf => ?_)
      refine S.val hf hs (v := .bool (decide (y1 < least))) rfl rfl rfl (V.pure rfl) (fun a hf => ?_)
      refine R.nil ?_
      refine X.then_ ?_
      exact ⟨(decide (y1 < least)), h, (((((hf.nil.cons (hf.get 15 _ rfl)).cons (hf.get 5 _ rfl)).cons (hf.get 3 _ rfl)).cons (hf.get 2 _ rfl)).cons (hf.get 0 _ rfl)), hs⟩

set_option linter.unusedVariables false
def M_mount_orders_L1 (begin_ : (List Int)) (n : Int) (l : (List Batch)) (Q : Int → (List Int) → Prop) (rec_ : (List Int) → Int → (List Batch) → Int → (List Int) → (Int → (List Int) → Prop) → Prop) (again1 : List Int → Int → Int → Prop) (l2 : List Int) (b2 : Int) (n2 : Int) : Prop :=
  cnd (decide (n2 < n)) (M_contains_int begin_ n2 fun y1 => cnd (!y1) (M_clone_int begin_ fun y2 => must (room (y2 ++ [n2]).length 8) (rec_ (y2 ++ [n2]) n l b2 l2 fun z3 z4 => again1 z4 z3 (w64 (n2 + 1)))) (again1 l2 b2 (w64 (n2 + 1)))) (Q b2 l2)
def M_mount_orders_B (rec_ : (List Int) → Int → (List Batch) → Int → (List Int) → (Int → (List Int) → Prop) → Prop) (begin_ : (List Int)) (n : Int) (l : (List Batch)) (least : Int) (best : (List Int)) (Q : Int → (List Int) → Prop) : Prop :=
  cnd ((begin_.length : Int) == n) (M_Best1 begin_ l least best fun z1 z2 => Q z1 z2) (lp (fun again (s : List Int × Int × Int) => M_mount_orders_L1 begin_ n l Q rec_ (fun l2 b2 n2 => again (l2, b2, n2)) s.1 s.2.1 s.2.2) (best, least, 0))
def N_mount_orders : Nat → (List Int) → Int → (List Batch) → Int → (List Int) → (Int → (List Int) → Prop) → Prop
  | 0 => fun _ _ _ _ _ _ => False
  | fuel_ + 1 => fun begin_ n l least best Q => M_mount_orders_B (N_mount_orders fuel_) begin_ n l least best Q
def M_mount_orders (begin_ : (List Int)) (n : Int) (l : (List Batch)) (least : Int) (best : (List Int)) (Q : Int → (List Int) → Prop) : Prop := ∃ fuel_, N_mount_orders fuel_ begin_ n l least best Q
set_option maxHeartbeats 1000000 in
theorem RN_mount_orders (fuel : Nat) : ∀ (begin_ : (List Int)) (n : Int) (l : (List Batch)) (least : Int) (best : (List Int)) (w0 : World) (F0 : Nat → Prop) (begin_A : Option Addr) (begin_C : Nat) (hv_begin_ : View w0 (old w0 F0) begin_A begin_C begin_) (lA : Option Addr) (lC : Nat) (hv_l : View w0 (old w0 F0) lA lC l) (lg : Nat) (hb_l : ElemAt w0 (old w0 F0) (some ⟨lg, 0, none⟩) 0 [.slice lA l.length lC]) (leastg : Nat) (bestg : Nat) (bestA : Option Addr) (bestC : Nat) (hs0 : Sat w0 F0 [hbox leastg 3 [.int .i64 least], hbox bestg 22 [.slice bestA best.length bestC], hown 3 bestA bestC best] w0) (Q : Int → (List Int) → Prop) (h : N_mount_orders fuel begin_ n l least best Q),
    Ret Try.prog 30 #[.slice begin_A begin_.length begin_C, .int .i64 n, .func (.func 31) #[] #[.pointer (some ⟨lg, 0, none⟩), .pointer (some ⟨leastg, 0, none⟩), .pointer (some ⟨bestg, 0, none⟩)]] w0 fun v w' => ∃ (least1 : Int) (best1 : (List Int)) (best1A : Option Addr) (best1C : Nat), v = .tuple #[] ∧ Q least1 best1 ∧ Sat w0 F0 [hbox leastg 3 [.int .i64 least1], hbox bestg 22 [.slice best1A best1.length best1C], hown 3 best1A best1C best1] w' := by
  induction fuel with
  | zero => intro begin_ n l least best w0 F0 begin_A begin_C hv_begin_ lA lC hv_l lg hb_l leastg bestg bestA bestC hs0 Q h; exact h.elim
  | succ fuel ih =>
  intro begin_ n l least best w0 F0 begin_A begin_C hv_begin_ lA lC hv_l lg hb_l leastg bestg bestA bestC hs0 Q h
  obtain ⟨rec_, hrec⟩ : ∃ X : (List Int) → Int → (List Batch) → Int → (List Int) → (Int → (List Int) → Prop) → Prop, X = N_mount_orders fuel := ⟨_, rfl⟩
  replace h : M_mount_orders_B rec_ begin_ n l least best Q := by rw [hrec]; exact h
  rw [← hrec] at ih
  clear hrec
  refine fn_enter Try.func30 rfl Try.ntmps30 rfl (fs := [(0, .slice begin_A begin_.length begin_C), (1, .int .i64 n), (2, .func (.func 31) #[] #[.pointer (some ⟨lg, 0, none⟩), .pointer (some ⟨leastg, 0, none⟩), .pointer (some ⟨bestg, 0, none⟩)])]) rfl (fun a hf => ?_)
  have hs := hs0
  unfold M_mount_orders_B at h
  refine wp_seq ?_
  refine wp_seq ?_
  refine R.list ?_
  refine S.val hf hs (v := .slice begin_A begin_.length begin_C) rfl rfl rfl (V.pure rfl) (fun a hf => ?_)
  refine S.val hf hs (v := .int .i64 (begin_.length : Int)) rfl rfl rfl (V.len rfl rfl Try.runUnderlying22) (fun a hf => ?_)
  refine S.val hf hs (v := .int .i64 n) rfl rfl rfl (V.pure rfl) (fun a hf => ?_)
  refine S.val hf hs (v := .bool ((begin_.length : Int) == n)) rfl rfl rfl (V.pure rfl) (fun a hf => ?_)
  refine R.nil ?_
  refine X.then_ ?_
  refine C.cond hf (b := (begin_.length : Int) == n) rfl (fun hc => ?_) (fun hc => ?_)
  · replace h := h.1 hc
    refine wp_seq ?_
    refine R.list ?_
    refine S.val hf hs (v := .func (.func 31) #[] #[.pointer (some ⟨lg, 0, none⟩), .pointer (some ⟨leastg, 0, none⟩), .pointer (some ⟨bestg, 0, none⟩)]) rfl rfl rfl (V.pure rfl) (fun a hf => ?_)
    refine S.val hf hs (v := .slice begin_A begin_.length begin_C) rfl rfl rfl (V.pure rfl) (fun a hf => ?_)
    replace hs := hs.front 2 rfl
    replace hs := hs.front 2 rfl
    replace hs := hs.front 2 rfl
    obtain ⟨F1, hsF, hback, hold, hrest⟩ := Sat.callOwns [hbox leastg 3 [.int .i64 least], hbox bestg 22 [.slice bestA best.length bestC], hown 3 bestA bestC best] (σ := []) hs
    refine S.call hf rfl rfl rfl (call_run (args := #[.slice begin_A begin_.length begin_C, .pointer (some ⟨lg, 0, none⟩), .pointer (some ⟨leastg, 0, none⟩), .pointer (some ⟨bestg, 0, none⟩)]) rfl rfl rfl Try.call31 (by simp)) (R_Best1 begin_ l least best _ _ begin_A begin_C (viewArgsF hs hold hv_begin_) lA lC (viewArgsF hs hold hv_l) lg (elemArgsF hs hold hb_l) leastg bestg bestA bestC hsF _ h) (fun v a w' hf hr => ?_)
    obtain ⟨z1, z2, z2A, z2C, rfl, h2, hs2⟩ := hr
    replace h := h2; replace hs := hback _ _ hs2; clear h2 hs2 hback hold hrest hsF
    refine R.nil ?_
    refine X.then_ ?_
    refine wp_ret ?_
    refine X.then_ret ?_
    replace hs := hs.front 2 rfl
    replace hs := hs.front 2 rfl
    replace hs := hs.front 2 rfl
    replace hs := hs.take 3
    exact L.ret0 Try.results30 hf ⟨z1, z2, z2A, z2C, rfl, h, hs⟩
  · replace h := h.2 hc
    refine wp_skip ?_
    refine X.then_ ?_
    refine wp_seq ?_
    refine R.list ?_
    refine S.val hf hs (v := .int .i64 n) rfl rfl rfl (V.pure rfl) (fun a hf => ?_)
    refine S.val hf hs (v := .int .i64 0) rfl rfl rfl (V.pure rfl) (fun a hf => ?_)
    refine R.nil ?_
    refine X.then_ ?_
    refine wp_block ?_
    obtain ⟨kk, h⟩ := h
    refine C.loop (fun kk a w => ∃ (l2 : List Int) (l2A : Option Addr) (l2C : Nat) (b2 : Int) (n2 : Int), iterF (fun again (s : List Int × Int × Int) => M_mount_orders_L1 begin_ n l Q rec_ (fun l2 b2 n2 => again (l2, b2, n2)) s.1 s.2.1 s.2.2) kk (l2, b2, n2) ∧ FrOk 31 [(0, .slice begin_A begin_.length begin_C), (1, .int .i64 n), (2, .func (.func 31) #[] #[.pointer (some ⟨lg, 0, none⟩), .pointer (some ⟨leastg, 0, none⟩), .pointer (some ⟨bestg, 0, none⟩)]), (14, .int .i64 n), (15, .int .i64 n2)] a ∧ Sat w0 F0 [hbox leastg 3 [.int .i64 b2], hbox bestg 22 [.slice l2A l2.length l2C], hown 3 l2A l2C l2] w) kk ⟨best, bestA, bestC, least, 0, h, (((((hf.nil.cons (hf.get 15 _ rfl)).cons (hf.get 14 _ rfl)).cons (hf.get 2 _ rfl)).cons (hf.get 1 _ rfl)).cons (hf.get 0 _ rfl)), hs⟩ (fun a w ⟨_, _, _, _, _, h, _, _⟩ => h) ?_
    clear h hf hs
    rintro kk a w ⟨l2, l2A, l2C, b2, n2, h, hf, hs⟩
    obtain ⟨again1, hagain1⟩ : ∃ X : List Int → Int → Int → Prop, X = (fun l2 b2 n2 => iterF (fun again (s : List Int × Int × Int) => M_mount_orders_L1 begin_ n l Q rec_ (fun l2 b2 n2 => again (l2, b2, n2)) s.1 s.2.1 s.2.2) kk (l2, b2, n2)) := ⟨_, rfl⟩
    replace h : M_mount_orders_L1 begin_ n l Q rec_ again1 l2 b2 n2 := by rw [hagain1]; exact h
    unfold M_mount_orders_L1 at h
    refine wp_seq ?_
    refine R.list ?_
    refine S.val hf hs (v := .bool (decide (n2 < n))) rfl rfl rfl (V.pure rfl) (fun a hf => ?_)
    refine R.nil ?_
    refine X.then_ ?_
    refine wp_seq ?_
    refine C.cond hf (b := decide (n2 < n)) rfl (fun hc => ?_) (fun hc => ?_)
    · replace h := h.1 hc
      refine wp_skip ?_
      refine X.then_ ?_
      refine wp_seq ?_
      refine wp_block ?_
      refine wp_seq ?_
      refine R.list ?_
      refine S.val hf hs (v := .int .i64 n2) rfl rfl rfl (V.pure rfl) (fun a hf => ?_)
      refine S.val hf hs (v := .int .i64 n2) rfl rfl rfl (V.pure rfl) (fun a hf => ?_)
      refine R.nil ?_
      refine X.then_ ?_
      refine wp_seq ?_
      refine R.list ?_
      refine S.val hf hs (v := .slice begin_A begin_.length begin_C) rfl rfl rfl (V.pure rfl) (fun a hf => ?_)
      refine S.val hf hs (v := .int .i64 n2) rfl rfl rfl (V.pure rfl) (fun a hf => ?_)
      refine S.call hf rfl rfl rfl (call_fn (vs := [.slice begin_A begin_.length begin_C, .int .i64 n2]) rfl rfl rfl Try.call11) (R_contains_int begin_ n2 _ begin_A begin_C ((Ag.args _ _ _).view hv_begin_ hs) _ h) (fun v a w' hf hr => ?_)
      obtain ⟨y1, rfl, h2, hs2⟩ := hr
      replace h := h2; replace hs := hs.call hs2; clear h2 hs2
      refine S.val hf hs (v := .bool (!y1)) rfl rfl rfl (V.pure rfl) (fun a hf => ?_)
      refine R.nil ?_
      refine X.then_ ?_
      refine C.cond hf (b := !y1) rfl (fun hc => ?_) (fun hc => ?_)
      · replace h := h.1 hc
        refine R.list ?_
        refine S.val hf hs (v := .slice begin_A begin_.length begin_C) rfl rfl rfl (V.pure rfl) (fun a hf => ?_)
        refine S.call hf rfl rfl rfl (call_fn (vs := [.slice begin_A begin_.length begin_C]) rfl rfl rfl Try.call32) (R_clone_int begin_ _ begin_A begin_C ((Ag.args _ _ _).view hv_begin_ hs) _ h) (fun v a w' hf hr => ?_)
        obtain ⟨y2, y2A, y2C, rfl, h2, hs2⟩ := hr
        replace h := h2; replace hs := hs.call hs2; clear h2 hs2
        refine S.val hf hs (v := .int .i64 n2) rfl rfl rfl (V.pure rfl) (fun a hf => ?_)
        refine S.build1 hf hs rfl rfl rfl (α := Int) n2 rfl rfl rfl Try.runUnderlying22 Try.sizeOf3 Try.zeroValue3 rfl (by decide) (fun A1 a w hf hs => ?_)
        obtain ⟨hroom, h⟩ := h
        refine S.appendCells 1 hf hs rfl rfl rfl rfl rfl rfl rfl Try.underlying22 info3 rfl hroom ((hs.ownView 0 rfl).some_ (i := 0) (by simp)) (hs.ownView 0 rfl) (fun A2 C1 a w hf hs => ?_)
        replace hs := hs.drop
        refine S.val hf hs (v := .int .i64 n) rfl rfl rfl (V.pure rfl) (fun a hf => ?_)
        refine S.val hf hs (v := .func (.func 31) #[] #[.pointer (some ⟨lg, 0, none⟩), .pointer (some ⟨leastg, 0, none⟩), .pointer (some ⟨bestg, 0, none⟩)]) rfl rfl rfl (V.pure rfl) (fun a hf => ?_)
        replace hs := hs.front 3 rfl
        replace hs := hs.front 3 rfl
        replace hs := hs.front 3 rfl
        obtain ⟨F1, hsF, hback, hold, hrest⟩ := Sat.callOwns [hbox leastg 3 [.int .i64 b2], hbox bestg 22 [.slice l2A l2.length l2C], hown 3 l2A l2C l2] (σ := [hown 3 A2 C1 (y2 ++ [n2])]) hs
        refine S.call hf rfl rfl rfl (call_fn (vs := [.slice A2 (y2 ++ [n2]).length C1, .int .i64 n, .func (.func 31) #[] #[.pointer (some ⟨lg, 0, none⟩), .pointer (some ⟨leastg, 0, none⟩), .pointer (some ⟨bestg, 0, none⟩)]]) rfl rfl rfl Try.call30) (ih (y2 ++ [n2]) n l b2 l2 _ _ A2 C1 (ownViewF hrest 0 rfl) lA lC (viewArgsF hs hold hv_l) lg (elemArgsF hs hold hb_l) leastg bestg l2A l2C hsF _ h) (fun v a w' hf hr => ?_)
        obtain ⟨z3, z4, z4A, z4C, rfl, h2, hs2⟩ := hr
        replace h := h2; replace hs := hback _ _ hs2; clear h2 hs2 hback hold hrest hsF
        refine R.nil ?_
        refine X.blk ?_
        refine X.then_ ?_
        refine R.list ?_
        refine S.val hf hs (v := .int .i64 (w64 (n2 + 1))) rfl rfl rfl (V.pure rfl) (fun a hf => ?_)
        refine S.val hf hs (v := .int .i64 (w64 (n2 + 1))) rfl rfl rfl (V.pure rfl) (fun a hf => ?_)
        refine R.nil ?_
        refine X.then_ ?_
        replace hs := hs.front 2 rfl
        replace hs := hs.front 2 rfl
        replace hs := hs.front 2 rfl
        replace hs := hs.take 3
        exact ⟨z4, z4A, z4C, z3, (w64 (n2 + 1)), (by rw [hagain1] at h; exact h), (((((hf.nil.cons (hf.get 15 _ rfl)).cons (hf.get 14 _ rfl)).cons (hf.get 2 _ rfl)).cons (hf.get 1 _ rfl)).cons (hf.get 0 _ rfl)), hs⟩
      · replace h := h.2 hc
        refine wp_skip ?_
        refine X.blk ?_
        refine X.then_ ?_
        refine R.list ?_
        refine S.val hf hs (v := .int .i64 (w64 (n2 + 1))) rfl rfl rfl (V.pure rfl) (fun a hf => ?_)
        refine S.val hf hs (v := .int .i64 (w64 (n2 + 1))) rfl rfl rfl (V.pure rfl) (fun a hf => ?_)
        refine R.nil ?_
        refine X.then_ ?_
        exact ⟨l2, l2A, l2C, b2, (w64 (n2 + 1)), (by rw [hagain1] at h; exact h), (((((hf.nil.cons (hf.get 15 _ rfl)).cons (hf.get 14 _ rfl)).cons (hf.get 2 _ rfl)).cons (hf.get 1 _ rfl)).cons (hf.get 0 _ rfl)), hs⟩
    · replace h := h.2 hc
      refine wp_exit ?_
      refine X.then_exit ?_
      refine X.then_exit ?_
      refine X.blk_exit ?_
      replace hs := hs.front 2 rfl
      replace hs := hs.front 2 rfl
      replace hs := hs.front 2 rfl
      replace hs := hs.take 3
      exact L.end0 Try.results30 hf ⟨b2, l2, l2A, l2C, rfl, h, hs⟩
theorem R_mount_orders (begin_ : (List Int)) (n : Int) (l : (List Batch)) (least : Int) (best : (List Int)) (w0 : World) (F0 : Nat → Prop) (begin_A : Option Addr) (begin_C : Nat) (hv_begin_ : View w0 (old w0 F0) begin_A begin_C begin_) (lA : Option Addr) (lC : Nat) (hv_l : View w0 (old w0 F0) lA lC l) (lg : Nat) (hb_l : ElemAt w0 (old w0 F0) (some ⟨lg, 0, none⟩) 0 [.slice lA l.length lC]) (leastg : Nat) (bestg : Nat) (bestA : Option Addr) (bestC : Nat) (hs0 : Sat w0 F0 [hbox leastg 3 [.int .i64 least], hbox bestg 22 [.slice bestA best.length bestC], hown 3 bestA bestC best] w0) (Q : Int → (List Int) → Prop) (h : M_mount_orders begin_ n l least best Q) :
    Ret Try.prog 30 #[.slice begin_A begin_.length begin_C, .int .i64 n, .func (.func 31) #[] #[.pointer (some ⟨lg, 0, none⟩), .pointer (some ⟨leastg, 0, none⟩), .pointer (some ⟨bestg, 0, none⟩)]] w0 fun v w' => ∃ (least1 : Int) (best1 : (List Int)) (best1A : Option Addr) (best1C : Nat), v = .tuple #[] ∧ Q least1 best1 ∧ Sat w0 F0 [hbox leastg 3 [.int .i64 least1], hbox bestg 22 [.slice best1A best1.length best1C], hown 3 best1A best1C best1] w' := by
  obtain ⟨fuel, h⟩ := h
  exact RN_mount_orders fuel begin_ n l least best w0 F0 begin_A begin_C hv_begin_ lA lC hv_l lg hb_l leastg bestg bestA bestC hs0 Q h

set_option linter.unusedVariables false
def M_mount_Best (l : (List Batch)) (Q : (List Int) → Int → Int → Prop) : Prop :=
  M_mount_checkLots l 8 fun y1 => cnd (y1 != 0) (Q ([] : List Int) 0 y1) (M_mount_orders ([] : List Int) (l.length : Int) l (-1) ([] : List Int) fun z1 z2 => Q z2 z1 0)
set_option maxHeartbeats 1000000 in
theorem R_mount_Best (l : (List Batch)) (w0 : World) (lA : Option Addr) (lC : Nat) (hv_l : View w0 (old w0 none_) lA lC l) (Q : (List Int) → Int → Int → Prop) (h : M_mount_Best l Q) :
    Ret Try.prog 14 #[.slice lA l.length lC] w0 fun v w' => ∃ (r0 : (List Int)) (r0A : Option Addr) (r0C : Nat) (r1 : Int) (r2 : Int), v = .tuple #[.slice r0A r0.length r0C, .int .i64 r1, .int .i64 r2] ∧ Q r0 r1 r2 ∧ Sat w0 none_ [hown 3 r0A r0C r0] w' := by
  refine fn_enter Try.func14 rfl Try.ntmps14 rfl (fs := [(0, .slice lA l.length lC)]) rfl (fun a hf => ?_)
  have hs := Sat.start w0 none_
  unfold M_mount_Best at h
  refine wp_seq ?_
  refine R.list ?_
  refine S.box hf hs rfl rfl rfl [.slice lA l.length lC] rfl rfl rfl (fun g1 a w hf hs => ?_)
  refine S.val hf hs (v := .slice none 0 0) rfl rfl rfl (V.pure rfl) (fun a hf => ?_)
  refine S.val hf hs (v := .int .i64 0) rfl rfl rfl (V.pure rfl) (fun a hf => ?_)
  refine S.val hf hs (v := .int .i64 0) rfl rfl rfl (V.pure rfl) (fun a hf => ?_)
  refine R.nil ?_
  refine X.then_ ?_
  refine wp_seq ?_
  refine wp_seq ?_
  refine R.list ?_
  refine S.val hf hs (v := .slice lA l.length lC) rfl rfl rfl (V.loadBox 0 rfl rfl rfl Try.isAgg32 Try.sizeOf32 rfl rfl) (fun a hf => ?_)
  refine S.call hf rfl rfl rfl (call_fn (vs := [.slice lA l.length lC, .int .i64 8]) rfl rfl rfl Try.call24) (R_mount_checkLots l 8 _ lA lC ((Ag.args _ _ _).view hv_l hs) _ h) (fun v a w' hf hr => ?_)
  obtain ⟨y1, rfl, h2, hs2⟩ := hr
  replace h := h2; replace hs := hs.call hs2; clear h2 hs2
  refine S.val hf hs (v := .int .i64 y1) rfl rfl rfl (V.pure rfl) (fun a hf => ?_)
  refine R.nil ?_
  refine X.then_ ?_
  refine wp_seq ?_
  refine R.list ?_
  refine S.val hf hs (v := .int .i64 y1) rfl rfl rfl (V.pure rfl) (fun a hf => ?_)
  refine S.val hf hs (v := .bool (y1 != 0)) rfl rfl rfl (V.pure rfl) (fun a hf => ?_)
  refine R.nil ?_
  refine X.then_ ?_
  refine C.cond hf (b := y1 != 0) rfl (fun hc => ?_) (fun hc => ?_)
  · replace h := h.1 hc
    refine wp_seq ?_
    refine R.list ?_
    refine S.val hf hs (v := .int .i64 y1) rfl rfl rfl (V.pure rfl) (fun a hf => ?_)
    refine S.val hf hs (v := .slice none 0 0) rfl rfl rfl (V.pure rfl) (fun a hf => ?_)
    refine S.val hf hs (v := .int .i64 0) rfl rfl rfl (V.pure rfl) (fun a hf => ?_)
    refine S.val hf hs (v := .int .i64 y1) rfl rfl rfl (V.pure rfl) (fun a hf => ?_)
    refine R.nil ?_
    refine X.then_ ?_
    refine wp_ret ?_
    refine X.then_ret ?_
    replace hs := hs.nilOwn (α := Int) 3
    replace hs := hs.take 1
    exact L.ret hf (run_results3 Try.results14 (ResIs.tmp hf rfl) (ResIs.tmp hf rfl) (ResIs.tmp hf rfl)) ⟨([] : List Int), none, 0, 0, y1, rfl, h, hs⟩
  · replace h := h.2 hc
    refine wp_skip ?_
    refine X.then_ ?_
    refine wp_seq ?_
    refine R.list ?_
    refine S.alloc hf hs rfl rfl rfl [.slice none 0 0] rfl Try.zeroValue22 rfl (fun g2 a w hf hs => ?_)
    refine R.nil ?_
    refine X.then_ ?_
    refine wp_seq ?_
    refine R.list ?_
    refine S.alloc hf hs rfl rfl rfl [.int .i64 0] rfl Try.zeroValue3 rfl (fun g3 a w hf hs => ?_)
    refine S.storeBox 0 hf hs rfl rfl [.int .i64 (-1)] [.int .i64 (-1)] rfl rfl rfl rfl rfl Try.sizeOf3 rfl rfl rfl rfl (fun a w hf hs => ?_)
    refine R.nil ?_
    refine X.then_ ?_
    refine wp_seq ?_
    refine R.list ?_
    refine S.val hf hs (v := .slice lA l.length lC) rfl rfl rfl (V.loadBox 2 rfl rfl rfl Try.isAgg32 Try.sizeOf32 rfl rfl) (fun a hf => ?_)
    refine S.val hf hs (v := .int .i64 (l.length : Int)) rfl rfl rfl (V.len rfl rfl Try.runUnderlying32) (fun a hf => ?_)
    refine S.val hf hs (v := .func (.func 31) #[] #[.pointer (some ⟨g1, 0, none⟩), .pointer (some ⟨g3, 0, none⟩), .pointer (some ⟨g2, 0, none⟩)]) rfl rfl rfl (V.pure rfl) (fun a hf => ?_)
    replace hs := hs.nilOwn (α := Int) 3
    replace hs := hs.front 2 rfl
    replace hs := hs.front 2 rfl
    obtain ⟨F1, hsF, hback, hold, hrest⟩ := Sat.callOwns [hbox g3 3 [.int .i64 (-1)], hbox g2 22 [.slice none ([] : List Int).length 0], hown 3 none 0 ([] : List Int)] (σ := [hbox g1 32 [.slice lA l.length lC]]) hs
    refine S.call hf rfl rfl rfl (call_fn (vs := [.slice none 0 0, .int .i64 (l.length : Int), .func (.func 31) #[] #[.pointer (some ⟨g1, 0, none⟩), .pointer (some ⟨g3, 0, none⟩), .pointer (some ⟨g2, 0, none⟩)]]) rfl rfl rfl Try.call30) (R_mount_orders ([] : List Int) (l.length : Int) l (-1) ([] : List Int) _ _ none 0 (View.nil _ _) lA lC (viewArgsF hs hold hv_l) g1 (boxAtF hrest 0 rfl) g3 g2 none 0 hsF _ h) (fun v a w' hf hr => ?_)
    obtain ⟨z1, z2, z2A, z2C, rfl, h2, hs2⟩ := hr
    replace h := h2; replace hs := hback _ _ hs2; clear h2 hs2 hback hold hrest hsF
    refine R.nil ?_
    refine X.then_ ?_
    refine wp_seq ?_
    refine R.draw mo (by kernel_rfl) hs ?_
    refine D.val hf (v := .slice z2A z2.length z2C) rfl rfl rfl (V.loadBox 1 rfl rfl rfl Try.isAgg22 Try.sizeOf22 rfl rfl) (fun a hf => ?_)
    refine D.val hf (v := .int .i64 z1) rfl rfl rfl (V.loadBox 0 rfl rfl rfl Try.isAgg3 Try.sizeOf3 rfl rfl) (fun a hf => ?_)
    refine D.val hf (v := .slice z2A z2.length z2C) rfl rfl rfl (V.pure rfl) (fun a hf => ?_)
    refine D.val hf (v := .int .i64 z1) rfl rfl rfl (V.pure rfl) (fun a hf => ?_)
    refine D.val hf (v := .int .i64 0) rfl rfl rfl (V.pure rfl) (fun a hf => ?_)
    refine D.done (fun w hs => ?_)
    refine X.then_ ?_
    refine wp_ret ?_
    replace hs := hs.front 2 rfl
    replace hs := hs.take 1
    exact L.ret hf (run_results3 Try.results14 (ResIs.tmp hf rfl) (ResIs.tmp hf rfl) (ResIs.tmp hf rfl)) ⟨z2, z2A, z2C, z1, 0, rfl, h, hs⟩

set_option linter.unusedVariables false
def M_ref10_goOn_L1 (s_ : R10Search) (rec_ : R10Search → (R10Search → Prop) → Prop) (k2 : Nat) (xk2 : Batch) (l3 : List Int) (l4 : List Int) (b2 : Int) (next1 : List Int → List Int → Int → Prop) : Prop :=
  M_contains_int l3 (k2 : Int) fun y4 => cnd y4 (next1 l3 l4 b2) (must (room (l3 ++ [(k2 : Int)]).length 8) (rec_ (⟨s_.l, (l3 ++ [(k2 : Int)]), l4, b2⟩ : R10Search) fun z1 => must (0 ≤ w64 ((z1.now.length : Int) - 1) ∧ w64 ((z1.now.length : Int) - 1) ≤ (z1.now.length : Int)) (next1 (z1.now.take (w64 ((z1.now.length : Int) - 1)).toNat) z1.best z1.most)))
def M_ref10_goOn_k1 (s_ : R10Search) (Q : R10Search → Prop) (rec_ : R10Search → (R10Search → Prop) → Prop) (c1 : Bool) : Prop :=
  cnd c1 (Q s_) (cnd ((s_.now.length : Int) == (s_.l.length : Int)) (M_clone_int s_.now fun y2 => M_ref10_makespan s_.l s_.now fun y3 => Q (⟨s_.l, s_.now, y2, y3⟩ : R10Search)) (forIn' (fun k x (s : List Int × List Int × Int) next => M_ref10_goOn_L1 s_ rec_ k x s.1 s.2.1 s.2.2 (fun l3 l4 b2 => next (l3, l4, b2))) (fun (s : List Int × List Int × Int) => (fun (l3 : List Int) (l4 : List Int) (b2 : Int) => Q (⟨s_.l, l3, l4, b2⟩ : R10Search)) s.1 s.2.1 s.2.2) s_.l 0 (s_.now, s_.best, s_.most)))
def M_ref10_goOn_B (rec_ : R10Search → (R10Search → Prop) → Prop) (s_ : R10Search) (Q : R10Search → Prop) : Prop :=
  M_ref10_makespan s_.l s_.now fun y1 => cnd (decide (s_.most ≥ 0)) (M_ref10_goOn_k1 s_ Q rec_ (decide (y1 ≥ s_.most))) (M_ref10_goOn_k1 s_ Q rec_ false)
def N_ref10_goOn : Nat → R10Search → (R10Search → Prop) → Prop
  | 0 => fun _ _ => False
  | fuel_ + 1 => fun s_ Q => M_ref10_goOn_B (N_ref10_goOn fuel_) s_ Q
def M_ref10_goOn (s_ : R10Search) (Q : R10Search → Prop) : Prop := ∃ fuel_, N_ref10_goOn fuel_ s_ Q
set_option maxHeartbeats 1000000 in
theorem RN_ref10_goOn (fuel : Nat) : ∀ (s_ : R10Search) (w0 : World) (F0 : Nat → Prop) (s_g : Nat) (s__lA : Option Addr) (s__lC : Nat) (hv_s__l : View w0 (old w0 F0) s__lA s__lC s_.l) (s__nowA : Option Addr) (s__nowC : Nat) (s__bestA : Option Addr) (s__bestC : Nat) (hs0 : Sat w0 F0 [hbox s_g 52 [.slice s__lA s_.l.length s__lC, .slice s__nowA s_.now.length s__nowC, .slice s__bestA s_.best.length s__bestC, .int .i64 s_.most], hown 3 s__nowA s__nowC s_.now, hown 3 s__bestA s__bestC s_.best] w0) (Q : R10Search → Prop) (h : N_ref10_goOn fuel s_ Q),
    Ret Try.prog 33 #[.pointer (some ⟨s_g, 0, none⟩)] w0 fun v w' => ∃ (s_1 : R10Search) (s_1_nowA : Option Addr) (s_1_nowC : Nat) (s_1_bestA : Option Addr) (s_1_bestC : Nat), v = .tuple #[] ∧ Q s_1 ∧ Sat w0 F0 [hbox s_g 52 [.slice s__lA s_.l.length s__lC, .slice s_1_nowA s_1.now.length s_1_nowC, .slice s_1_bestA s_1.best.length s_1_bestC, .int .i64 s_1.most], hown 3 s_1_nowA s_1_nowC s_1.now, hown 3 s_1_bestA s_1_bestC s_1.best] w' := by
  induction fuel with
  | zero => intro s_ w0 F0 s_g s__lA s__lC hv_s__l s__nowA s__nowC s__bestA s__bestC hs0 Q h; exact h.elim
  | succ fuel ih =>
  intro s_ w0 F0 s_g s__lA s__lC hv_s__l s__nowA s__nowC s__bestA s__bestC hs0 Q h
  obtain ⟨rec_, hrec⟩ : ∃ X : R10Search → (R10Search → Prop) → Prop, X = N_ref10_goOn fuel := ⟨_, rfl⟩
  replace h : M_ref10_goOn_B rec_ s_ Q := by rw [hrec]; exact h
  rw [← hrec] at ih
  clear hrec
  refine fn_enter Try.func33 rfl Try.ntmps33 rfl (fs := [(0, .pointer (some ⟨s_g, 0, none⟩))]) rfl (fun a hf => ?_)
  have hs := hs0
  unfold M_ref10_goOn_B at h
  refine wp_seq ?_
  refine wp_seq ?_
  refine H.start (S := Sat w0 F0 [hbox s_g 52 [.slice s__lA s_.l.length s__lC, .slice s__nowA s_.now.length s__nowC, .slice s__bestA s_.best.length s__bestC, .int .i64 s_.most], hown 3 s__nowA s__nowC s_.now, hown 3 s__bestA s__bestC s_.best]) mo ?_
  replace hs := hs.drew
  refine H.val hf hs (v := .pointer (some ⟨s_g, 0, none⟩)) (i := 0) rfl rfl rfl rfl (by kernel_rfl) (by kernel_rfl) (by kernel_rfl) (V.pure rfl) (fun a hf => ?_)
  refine H.val hf hs (v := .pointer (some ⟨s_g, 0, none⟩)) (i := 1) rfl rfl rfl rfl (by kernel_rfl) (by kernel_rfl) (by kernel_rfl) (V.pure rfl) (fun a hf => ?_)
  refine H.val hf hs (v := .pointer (some ⟨s_g, 0, none⟩)) (i := 2) rfl rfl rfl rfl (by kernel_rfl) (by kernel_rfl) (by kernel_rfl) (V.fieldBox rfl rfl Try.runUnderlying52 rfl Try.sizeOf32 rfl rfl) (fun a hf => ?_)
  refine H.val hf hs (v := .slice s__lA s_.l.length s__lC) (i := 3) rfl rfl rfl rfl (by kernel_rfl) (by kernel_rfl) (by kernel_rfl) (V.loadBox 0 rfl rfl rfl Try.isAgg32 Try.sizeOf32 rfl rfl) (fun a hf => ?_)
  refine H.val hf hs (v := .pointer (some ⟨s_g, 0, none⟩)) (i := 4) rfl rfl rfl rfl (by kernel_rfl) (by kernel_rfl) (by kernel_rfl) (V.pure rfl) (fun a hf => ?_)
  refine H.val hf hs (v := .pointer (some ⟨s_g, 0, none⟩)) (i := 5) rfl rfl rfl rfl (by kernel_rfl) (by kernel_rfl) (by kernel_rfl) (V.pure rfl) (fun a hf => ?_)
  refine H.val hf hs (v := .pointer (some ⟨s_g, 1, none⟩)) (i := 6) rfl rfl rfl rfl (by kernel_rfl) (by kernel_rfl) (by kernel_rfl) (V.fieldBox rfl rfl Try.runUnderlying52 rfl Try.sizeOf22 rfl rfl) (fun a hf => ?_)
  refine H.val hf hs (v := .slice s__nowA s_.now.length s__nowC) (i := 7) rfl rfl rfl rfl (by kernel_rfl) (by kernel_rfl) (by kernel_rfl) (V.loadBox 0 rfl rfl rfl Try.isAgg22 Try.sizeOf22 rfl rfl) (fun a hf => ?_)
  refine H.one (i := 8) rfl (by kernel_rfl) ?_
  refine S.call hf rfl rfl rfl (call_fn (vs := [.slice s__lA s_.l.length s__lC, .slice s__nowA s_.now.length s__nowC]) rfl rfl rfl Try.call29) (R_ref10_makespan s_.l s_.now _ s__lA s__lC ((Ag.args _ _ _).view hv_s__l hs) s__nowA s__nowC (hs.ownView 1 rfl) _ h) (fun v a w' hf hr => ?_)
  obtain ⟨y1, rfl, h2, hs2⟩ := hr
  replace h := h2; replace hs := hs.call hs2; clear h2 hs2
  refine R.nil ?_
  refine X.then_ ?_
  refine ⟨hs, ?_⟩
  refine H.val hf hs (v := .int .i64 y1) (i := 9) rfl rfl rfl rfl (by kernel_rfl) (by kernel_rfl) (by kernel_rfl) (V.pure rfl) (fun a hf => ?_)
  refine H.done (by kernel_rfl) ?_
  refine X.then_ ?_
  refine wp_seq ?_
  refine C.cut (J := fun a w => ∃ (c1 : Bool), M_ref10_goOn_k1 s_ Q rec_ c1 ∧ FrOk 98 [(0, .pointer (some ⟨s_g, 0, none⟩)), (25, .bool c1)] a ∧ Sat w0 F0 [hbox s_g 52 [.slice s__lA s_.l.length s__lC, .slice s__nowA s_.now.length s__nowC, .slice s__bestA s_.best.length s__bestC, .int .i64 s_.most], hown 3 s__nowA s__nowC s_.now, hown 3 s__bestA s__bestC s_.best] w) ?_ ?_
  · rintro a w ⟨c1, h, hf, hs⟩
    unfold M_ref10_goOn_k1 at h
    refine C.cond hf (b := c1) rfl (fun hc => ?_) (fun hc => ?_)
    · replace h := h.1 hc
      refine wp_ret ?_
      refine X.then_ret ?_
      replace hs := hs.front 2 rfl
      replace hs := hs.front 2 rfl
      replace hs := hs.front 2 rfl
      replace hs := hs.take 3
      exact L.ret0 Try.results33 hf ⟨s_, s__nowA, s__nowC, s__bestA, s__bestC, rfl, h, hs⟩
    · replace h := h.2 hc
      refine wp_skip ?_
      refine X.then_ ?_
      refine wp_seq ?_
      refine wp_seq ?_
      refine R.draw mo (by kernel_rfl) hs ?_
      refine D.val hf (v := .pointer (some ⟨s_g, 0, none⟩)) rfl rfl rfl (V.pure rfl) (fun a hf => ?_)
      refine D.val hf (v := .pointer (some ⟨s_g, 0, none⟩)) rfl rfl rfl (V.pure rfl) (fun a hf => ?_)
      refine D.val hf (v := .pointer (some ⟨s_g, 1, none⟩)) rfl rfl rfl (V.fieldBox rfl rfl Try.runUnderlying52 rfl Try.sizeOf22 rfl rfl) (fun a hf => ?_)
      refine D.val hf (v := .slice s__nowA s_.now.length s__nowC) rfl rfl rfl (V.loadBox 0 rfl rfl rfl Try.isAgg22 Try.sizeOf22 rfl rfl) (fun a hf => ?_)
      refine D.val hf (v := .int .i64 (s_.now.length : Int)) rfl rfl rfl (V.len rfl rfl Try.runUnderlying22) (fun a hf => ?_)
      refine D.val hf (v := .pointer (some ⟨s_g, 0, none⟩)) rfl rfl rfl (V.pure rfl) (fun a hf => ?_)
      refine D.val hf (v := .pointer (some ⟨s_g, 0, none⟩)) rfl rfl rfl (V.pure rfl) (fun a hf => ?_)
      refine D.val hf (v := .pointer (some ⟨s_g, 0, none⟩)) rfl rfl rfl (V.fieldBox rfl rfl Try.runUnderlying52 rfl Try.sizeOf32 rfl rfl) (fun a hf => ?_)
      refine D.val hf (v := .slice s__lA s_.l.length s__lC) rfl rfl rfl (V.loadBox 0 rfl rfl rfl Try.isAgg32 Try.sizeOf32 rfl rfl) (fun a hf => ?_)
      refine D.val hf (v := .int .i64 (s_.l.length : Int)) rfl rfl rfl (V.len rfl rfl Try.runUnderlying32) (fun a hf => ?_)
      refine D.val hf (v := .bool ((s_.now.length : Int) == (s_.l.length : Int))) rfl rfl rfl (V.pure rfl) (fun a hf => ?_)
      refine D.done (fun w hs => ?_)
      refine X.then_ ?_
      refine C.cond hf (b := (s_.now.length : Int) == (s_.l.length : Int)) rfl (fun hc => ?_) (fun hc => ?_)
      · replace h := h.1 hc
        refine wp_seq ?_
        refine H.start (S := Sat w0 F0 [hown 3 s__nowA s__nowC s_.now, hown 3 s__bestA s__bestC s_.best]) mo ?_
        replace hs := hs.drew
        refine H.val hf (hs.mask [false, true, true]) (v := .pointer (some ⟨s_g, 0, none⟩)) (i := 0) rfl rfl rfl rfl (by kernel_rfl) (by kernel_rfl) (by kernel_rfl) (V.pure rfl) (fun a hf => ?_)
        refine H.val hf (hs.mask [false, true, true]) (v := .pointer (some ⟨s_g, 0, none⟩)) (i := 1) rfl rfl rfl rfl (by kernel_rfl) (by kernel_rfl) (by kernel_rfl) (V.pure rfl) (fun a hf => ?_)
        refine H.val hf (hs.mask [false, true, true]) (v := .pointer (some ⟨s_g, 0, none⟩)) (i := 2) rfl rfl rfl rfl (by kernel_rfl) (by kernel_rfl) (by kernel_rfl) (V.pure rfl) (fun a hf => ?_)
        refine H.val hf (hs.mask [false, true, true]) (v := .pointer (some ⟨s_g, 0, none⟩)) (i := 3) rfl rfl rfl rfl (by kernel_rfl) (by kernel_rfl) (by kernel_rfl) (V.pure rfl) (fun a hf => ?_)
        refine H.val hf (hs.mask [false, true, true]) (v := .pointer (some ⟨s_g, 1, none⟩)) (i := 4) rfl rfl rfl rfl (by kernel_rfl) (by kernel_rfl) (by kernel_rfl) (V.fieldBox rfl rfl Try.runUnderlying52 rfl Try.sizeOf22 rfl rfl) (fun a hf => ?_)
        refine H.val hf (hs.mask [false, true, true]) (v := .pointer (some ⟨s_g, 0, none⟩)) (i := 7) rfl rfl rfl rfl (by kernel_rfl) (by kernel_rfl) (by kernel_rfl) (V.pure rfl) (fun a hf => ?_)
        refine H.val hf (hs.mask [false, true, true]) (v := .pointer (some ⟨s_g, 0, none⟩)) (i := 8) rfl rfl rfl rfl (by kernel_rfl) (by kernel_rfl) (by kernel_rfl) (V.pure rfl) (fun a hf => ?_)
        refine H.val hf (hs.mask [false, true, true]) (v := .pointer (some ⟨s_g, 0, none⟩)) (i := 9) rfl rfl rfl rfl (by kernel_rfl) (by kernel_rfl) (by kernel_rfl) (V.fieldBox rfl rfl Try.runUnderlying52 rfl Try.sizeOf32 rfl rfl) (fun a hf => ?_)
        refine H.val hf (hs.mask [false, true, true]) (v := .pointer (some ⟨s_g, 0, none⟩)) (i := 11) rfl rfl rfl rfl (by kernel_rfl) (by kernel_rfl) (by kernel_rfl) (V.pure rfl) (fun a hf => ?_)
        refine H.val hf (hs.mask [false, true, true]) (v := .pointer (some ⟨s_g, 0, none⟩)) (i := 12) rfl rfl rfl rfl (by kernel_rfl) (by kernel_rfl) (by kernel_rfl) (V.pure rfl) (fun a hf => ?_)
        refine H.val hf (hs.mask [false, true, true]) (v := .pointer (some ⟨s_g, 1, none⟩)) (i := 13) rfl rfl rfl rfl (by kernel_rfl) (by kernel_rfl) (by kernel_rfl) (V.fieldBox rfl rfl Try.runUnderlying52 rfl Try.sizeOf22 rfl rfl) (fun a hf => ?_)
        refine H.each3 (i0 := 5) (i1 := 10) (i2 := 14) rfl rfl rfl (by kernel_rfl) ?_ ?_ ?_
        · refine S.val hf hs (v := .slice s__nowA s_.now.length s__nowC) rfl rfl rfl (V.loadBox 0 rfl rfl rfl Try.isAgg22 Try.sizeOf22 rfl rfl) (fun a hf => ?_)
          refine R.nil ?_
          refine X.then_ ?_
          refine ⟨(hs.mask [false, true, true]), ?_⟩
          refine H.each3 (i0 := 6) (i1 := 10) (i2 := 14) rfl rfl rfl (by kernel_rfl) ?_ ?_ ?_
          · refine S.call hf rfl rfl rfl (call_fn (vs := [.slice s__nowA s_.now.length s__nowC]) rfl rfl rfl Try.call32) (R_clone_int s_.now _ s__nowA s__nowC (hs.ownView 1 rfl) _ h) (fun v a w' hf hr => ?_)
            obtain ⟨y2, y2A, y2C, rfl, h2, hs2⟩ := hr
            replace h := h2; replace hs := hs.call hs2; clear h2 hs2
            refine R.nil ?_
            refine X.then_ ?_
            refine ⟨(hs.mask [false, false, true, true]), ?_⟩
            refine H.two (i := 10) (j := 14) (vi := .slice s__lA s_.l.length s__lC) (vj := .slice s__nowA s_.now.length s__nowC) hf hs (hs.mask [false, false, true, true]) rfl rfl rfl rfl rfl rfl rfl rfl rfl rfl rfl (by kernel_rfl) (by kernel_rfl) (by kernel_rfl) (by kernel_rfl) (V.loadBox 1 rfl rfl rfl Try.isAgg32 Try.sizeOf32 rfl rfl) (V.loadBox 1 rfl rfl rfl Try.isAgg22 Try.sizeOf22 rfl rfl) (V.loadBox 1 rfl rfl rfl Try.isAgg22 Try.sizeOf22 rfl rfl) (V.loadBox 1 rfl rfl rfl Try.isAgg32 Try.sizeOf32 rfl rfl) (fun a hf => ?_)
            refine H.one (i := 15) rfl (by kernel_rfl) ?_
            refine S.call hf rfl rfl rfl (call_fn (vs := [.slice s__lA s_.l.length s__lC, .slice s__nowA s_.now.length s__nowC]) rfl rfl rfl Try.call29) (R_ref10_makespan s_.l s_.now _ s__lA s__lC ((Ag.args _ _ _).view hv_s__l hs) s__nowA s__nowC (hs.ownView 2 rfl) _ h) (fun v a w' hf hr => ?_)
            obtain ⟨y3, rfl, h2, hs2⟩ := hr
            replace h := h2; replace hs := hs.call hs2; clear h2 hs2
            refine R.nil ?_
            refine X.then_ ?_
            refine ⟨(hs.mask [false, false, true, true]), ?_⟩
            refine H.val hf (hs.mask [false, false, true, true]) (v := .pointer (some ⟨s_g, 0, none⟩)) (i := 16) rfl rfl rfl rfl (by kernel_rfl) (by kernel_rfl) (by kernel_rfl) (V.pure rfl) (fun a hf => ?_)
            refine H.val hf (hs.mask [false, false, true, true]) (v := .pointer (some ⟨s_g, 2, none⟩)) (i := 17) rfl rfl rfl rfl (by kernel_rfl) (by kernel_rfl) (by kernel_rfl) (V.fieldBox rfl rfl Try.runUnderlying52 rfl Try.sizeOf22 rfl rfl) (fun a hf => ?_)
            refine H.one (i := 18) rfl (by kernel_rfl) ?_
            refine S.storeBox 1 hf hs rfl rfl [.slice y2A y2.length y2C] [.slice s__lA s_.l.length s__lC, .slice s__nowA s_.now.length s__nowC, .slice y2A y2.length y2C, .int .i64 s_.most] rfl rfl rfl rfl rfl Try.sizeOf22 rfl rfl rfl rfl (fun a w hf hs => ?_)
            refine R.nil ?_
            refine X.then_ ?_
            refine ⟨(hs.mask [false, false, true, true]), ?_⟩
            refine H.val hf (hs.mask [false, false, true, true]) (v := .pointer (some ⟨s_g, 0, none⟩)) (i := 19) rfl rfl rfl rfl (by kernel_rfl) (by kernel_rfl) (by kernel_rfl) (V.pure rfl) (fun a hf => ?_)
            refine H.val hf (hs.mask [false, false, true, true]) (v := .pointer (some ⟨s_g, 3, none⟩)) (i := 20) rfl rfl rfl rfl (by kernel_rfl) (by kernel_rfl) (by kernel_rfl) (V.fieldBox rfl rfl Try.runUnderlying52 rfl Try.sizeOf3 rfl rfl) (fun a hf => ?_)
            refine H.one (i := 21) rfl (by kernel_rfl) ?_
            refine S.storeBox 1 hf hs rfl rfl [.int .i64 y3] [.slice s__lA s_.l.length s__lC, .slice s__nowA s_.now.length s__nowC, .slice y2A y2.length y2C, .int .i64 y3] rfl rfl rfl rfl rfl Try.sizeOf3 rfl rfl rfl rfl (fun a w hf hs => ?_)
            refine R.nil ?_
            refine X.then_ ?_
            refine ⟨(hs.mask [false, false, true, true]), ?_⟩
            refine H.done (by kernel_rfl) ?_
            refine X.then_ ?_
            refine wp_ret ?_
            refine X.then_ret ?_
            replace hs := hs.front 2 rfl
            replace hs := hs.front 2 rfl
            replace hs := hs.take 3
            exact L.ret0 Try.results33 hf ⟨(⟨s_.l, s_.now, y2, y3⟩ : R10Search), s__nowA, s__nowC, y2A, y2C, rfl, h, hs⟩
          · refine S.val hf hs (v := .slice s__lA s_.l.length s__lC) rfl rfl rfl (V.loadBox 0 rfl rfl rfl Try.isAgg32 Try.sizeOf32 rfl rfl) (fun a hf => ?_)
            refine R.nil ?_
            refine X.then_ ?_
            refine ⟨(hs.mask [false, true, true]), ?_⟩
            refine H.each2 (i0 := 6) (i1 := 14) rfl rfl (by kernel_rfl) ?_ ?_
            · refine S.call hf rfl rfl rfl (call_fn (vs := [.slice s__nowA s_.now.length s__nowC]) rfl rfl rfl Try.call32) (R_clone_int s_.now _ s__nowA s__nowC (hs.ownView 1 rfl) _ h) (fun v a w' hf hr => ?_)
              obtain ⟨y2, y2A, y2C, rfl, h2, hs2⟩ := hr
              replace h := h2; replace hs := hs.call hs2; clear h2 hs2
              refine R.nil ?_
              refine X.then_ ?_
              refine ⟨(hs.mask [false, false, true, true]), ?_⟩
              refine H.one (i := 14) rfl (by kernel_rfl) ?_
              refine S.val hf hs (v := .slice s__nowA s_.now.length s__nowC) rfl rfl rfl (V.loadBox 1 rfl rfl rfl Try.isAgg22 Try.sizeOf22 rfl rfl) (fun a hf => ?_)
              refine R.nil ?_
              refine X.then_ ?_
              refine ⟨(hs.mask [false, false, true, true]), ?_⟩
              refine H.one (i := 15) rfl (by kernel_rfl) ?_
              refine S.call hf rfl rfl rfl (call_fn (vs := [.slice s__lA s_.l.length s__lC, .slice s__nowA s_.now.length s__nowC]) rfl rfl rfl Try.call29) (R_ref10_makespan s_.l s_.now _ s__lA s__lC ((Ag.args _ _ _).view hv_s__l hs) s__nowA s__nowC (hs.ownView 2 rfl) _ h) (fun v a w' hf hr => ?_)
              obtain ⟨y3, rfl, h2, hs2⟩ := hr
              replace h := h2; replace hs := hs.call hs2; clear h2 hs2
              refine R.nil ?_
              refine X.then_ ?_
              refine ⟨(hs.mask [false, false, true, true]), ?_⟩
              refine H.val hf (hs.mask [false, false, true, true]) (v := .pointer (some ⟨s_g, 0, none⟩)) (i := 16) rfl rfl rfl rfl (by kernel_rfl) (by kernel_rfl) (by kernel_rfl) (V.pure rfl) (fun a hf => ?_)
              refine H.val hf (hs.mask [false, false, true, true]) (v := .pointer (some ⟨s_g, 2, none⟩)) (i := 17) rfl rfl rfl rfl (by kernel_rfl) (by kernel_rfl) (by kernel_rfl) (V.fieldBox rfl rfl Try.runUnderlying52 rfl Try.sizeOf22 rfl rfl) (fun a hf => ?_)
              refine H.one (i := 18) rfl (by kernel_rfl) ?_
              refine S.storeBox 1 hf hs rfl rfl [.slice y2A y2.length y2C] [.slice s__lA s_.l.length s__lC, .slice s__nowA s_.now.length s__nowC, .slice y2A y2.length y2C, .int .i64 s_.most] rfl rfl rfl rfl rfl Try.sizeOf22 rfl rfl rfl rfl (fun a w hf hs => ?_)
              refine R.nil ?_
              refine X.then_ ?_
              refine ⟨(hs.mask [false, false, true, true]), ?_⟩
              refine H.val hf (hs.mask [false, false, true, true]) (v := .pointer (some ⟨s_g, 0, none⟩)) (i := 19) rfl rfl rfl rfl (by kernel_rfl) (by kernel_rfl) (by kernel_rfl) (V.pure rfl) (fun a hf => ?_)
              refine H.val hf (hs.mask [false, false, true, true]) (v := .pointer (some ⟨s_g, 3, none⟩)) (i := 20) rfl rfl rfl rfl (by kernel_rfl) (by kernel_rfl) (by kernel_rfl) (V.fieldBox rfl rfl Try.runUnderlying52 rfl Try.sizeOf3 rfl rfl) (fun a hf => ?_)
              refine H.one (i := 21) rfl (by kernel_rfl) ?_
              refine S.storeBox 1 hf hs rfl rfl [.int .i64 y3] [.slice s__lA s_.l.length s__lC, .slice s__nowA s_.now.length s__nowC, .slice y2A y2.length y2C, .int .i64 y3] rfl rfl rfl rfl rfl Try.sizeOf3 rfl rfl rfl rfl (fun a w hf hs => ?_)
              refine R.nil ?_
              refine X.then_ ?_
              refine ⟨(hs.mask [false, false, true, true]), ?_⟩
              refine H.done (by kernel_rfl) ?_
              refine X.then_ ?_
              refine wp_ret ?_
              refine X.then_ret ?_
              replace hs := hs.front 2 rfl
              replace hs := hs.front 2 rfl
              replace hs := hs.take 3
              exact L.ret0 Try.results33 hf ⟨(⟨s_.l, s_.now, y2, y3⟩ : R10Search), s__nowA, s__nowC, y2A, y2C, rfl, h, hs⟩
            · refine S.val hf hs (v := .slice s__nowA s_.now.length s__nowC) rfl rfl rfl (V.loadBox 0 rfl rfl rfl Try.isAgg22 Try.sizeOf22 rfl rfl) (fun a hf => ?_)
              refine R.nil ?_
              refine X.then_ ?_
              refine ⟨(hs.mask [false, true, true]), ?_⟩
              refine H.one (i := 6) rfl (by kernel_rfl) ?_
              refine S.call hf rfl rfl rfl (call_fn (vs := [.slice s__nowA s_.now.length s__nowC]) rfl rfl rfl Try.call32) (R_clone_int s_.now _ s__nowA s__nowC (hs.ownView 1 rfl) _ h) (fun v a w' hf hr => ?_)
              obtain ⟨y2, y2A, y2C, rfl, h2, hs2⟩ := hr
              replace h := h2; replace hs := hs.call hs2; clear h2 hs2
              refine R.nil ?_
              refine X.then_ ?_
              refine ⟨(hs.mask [false, false, true, true]), ?_⟩
              refine H.one (i := 15) rfl (by kernel_rfl) ?_
              refine S.call hf rfl rfl rfl (call_fn (vs := [.slice s__lA s_.l.length s__lC, .slice s__nowA s_.now.length s__nowC]) rfl rfl rfl Try.call29) (R_ref10_makespan s_.l s_.now _ s__lA s__lC ((Ag.args _ _ _).view hv_s__l hs) s__nowA s__nowC (hs.ownView 2 rfl) _ h) (fun v a w' hf hr => ?_)
              obtain ⟨y3, rfl, h2, hs2⟩ := hr
              replace h := h2; replace hs := hs.call hs2; clear h2 hs2
              refine R.nil ?_
              refine X.then_ ?_
              refine ⟨(hs.mask [false, false, true, true]), ?_⟩
              refine H.val hf (hs.mask [false, false, true, true]) (v := .pointer (some ⟨s_g, 0, none⟩)) (i := 16) rfl rfl rfl rfl (by kernel_rfl) (by kernel_rfl) (by kernel_rfl) (V.pure rfl) (fun a hf => ?_)
              refine H.val hf (hs.mask [false, false, true, true]) (v := .pointer (some ⟨s_g, 2, none⟩)) (i := 17) rfl rfl rfl rfl (by kernel_rfl) (by kernel_rfl) (by kernel_rfl) (V.fieldBox rfl rfl Try.runUnderlying52 rfl Try.sizeOf22 rfl rfl) (fun a hf => ?_)
              refine H.one (i := 18) rfl (by kernel_rfl) ?_
              refine S.storeBox 1 hf hs rfl rfl [.slice y2A y2.length y2C] [.slice s__lA s_.l.length s__lC, .slice s__nowA s_.now.length s__nowC, .slice y2A y2.length y2C, .int .i64 s_.most] rfl rfl rfl rfl rfl Try.sizeOf22 rfl rfl rfl rfl (fun a w hf hs => ?_)
              refine R.nil ?_
              refine X.then_ ?_
              refine ⟨(hs.mask [false, false, true, true]), ?_⟩
              refine H.val hf (hs.mask [false, false, true, true]) (v := .pointer (some ⟨s_g, 0, none⟩)) (i := 19) rfl rfl rfl rfl (by kernel_rfl) (by kernel_rfl) (by kernel_rfl) (V.pure rfl) (fun a hf => ?_)
              refine H.val hf (hs.mask [false, false, true, true]) (v := .pointer (some ⟨s_g, 3, none⟩)) (i := 20) rfl rfl rfl rfl (by kernel_rfl) (by kernel_rfl) (by kernel_rfl) (V.fieldBox rfl rfl Try.runUnderlying52 rfl Try.sizeOf3 rfl rfl) (fun a hf => ?_)
              refine H.one (i := 21) rfl (by kernel_rfl) ?_
              refine S.storeBox 1 hf hs rfl rfl [.int .i64 y3] [.slice s__lA s_.l.length s__lC, .slice s__nowA s_.now.length s__nowC, .slice y2A y2.length y2C, .int .i64 y3] rfl rfl rfl rfl rfl Try.sizeOf3 rfl rfl rfl rfl (fun a w hf hs => ?_)
              refine R.nil ?_
              refine X.then_ ?_
              refine ⟨(hs.mask [false, false, true, true]), ?_⟩
              refine H.done (by kernel_rfl) ?_
              refine X.then_ ?_
              refine wp_ret ?_
              refine X.then_ret ?_
              replace hs := hs.front 2 rfl
              replace hs := hs.front 2 rfl
              replace hs := hs.take 3
              exact L.ret0 Try.results33 hf ⟨(⟨s_.l, s_.now, y2, y3⟩ : R10Search), s__nowA, s__nowC, y2A, y2C, rfl, h, hs⟩
          · refine S.val hf hs (v := .slice s__nowA s_.now.length s__nowC) rfl rfl rfl (V.loadBox 0 rfl rfl rfl Try.isAgg22 Try.sizeOf22 rfl rfl) (fun a hf => ?_)
            refine R.nil ?_
            refine X.then_ ?_
            refine ⟨(hs.mask [false, true, true]), ?_⟩
            refine H.each2 (i0 := 6) (i1 := 10) rfl rfl (by kernel_rfl) ?_ ?_
            · refine S.call hf rfl rfl rfl (call_fn (vs := [.slice s__nowA s_.now.length s__nowC]) rfl rfl rfl Try.call32) (R_clone_int s_.now _ s__nowA s__nowC (hs.ownView 1 rfl) _ h) (fun v a w' hf hr => ?_)
              obtain ⟨y2, y2A, y2C, rfl, h2, hs2⟩ := hr
              replace h := h2; replace hs := hs.call hs2; clear h2 hs2
              refine R.nil ?_
              refine X.then_ ?_
              refine ⟨(hs.mask [false, false, true, true]), ?_⟩
              refine H.one (i := 10) rfl (by kernel_rfl) ?_
              refine S.val hf hs (v := .slice s__lA s_.l.length s__lC) rfl rfl rfl (V.loadBox 1 rfl rfl rfl Try.isAgg32 Try.sizeOf32 rfl rfl) (fun a hf => ?_)
              refine R.nil ?_
              refine X.then_ ?_
              refine ⟨(hs.mask [false, false, true, true]), ?_⟩
              refine H.one (i := 15) rfl (by kernel_rfl) ?_
              refine S.call hf rfl rfl rfl (call_fn (vs := [.slice s__lA s_.l.length s__lC, .slice s__nowA s_.now.length s__nowC]) rfl rfl rfl Try.call29) (R_ref10_makespan s_.l s_.now _ s__lA s__lC ((Ag.args _ _ _).view hv_s__l hs) s__nowA s__nowC (hs.ownView 2 rfl) _ h) (fun v a w' hf hr => ?_)
              obtain ⟨y3, rfl, h2, hs2⟩ := hr
              replace h := h2; replace hs := hs.call hs2; clear h2 hs2
              refine R.nil ?_
              refine X.then_ ?_
              refine ⟨(hs.mask [false, false, true, true]), ?_⟩
              refine H.val hf (hs.mask [false, false, true, true]) (v := .pointer (some ⟨s_g, 0, none⟩)) (i := 16) rfl rfl rfl rfl (by kernel_rfl) (by kernel_rfl) (by kernel_rfl) (V.pure rfl) (fun a hf => ?_)
              refine H.val hf (hs.mask [false, false, true, true]) (v := .pointer (some ⟨s_g, 2, none⟩)) (i := 17) rfl rfl rfl rfl (by kernel_rfl) (by kernel_rfl) (by kernel_rfl) (V.fieldBox rfl rfl Try.runUnderlying52 rfl Try.sizeOf22 rfl rfl) (fun a hf => ?_)
              refine H.one (i := 18) rfl (by kernel_rfl) ?_
              refine S.storeBox 1 hf hs rfl rfl [.slice y2A y2.length y2C] [.slice s__lA s_.l.length s__lC, .slice s__nowA s_.now.length s__nowC, .slice y2A y2.length y2C, .int .i64 s_.most] rfl rfl rfl rfl rfl Try.sizeOf22 rfl rfl rfl rfl (fun a w hf hs => ?_)
              refine R.nil ?_
              refine X.then_ ?_
              refine ⟨(hs.mask [false, false, true, true]), ?_⟩
              refine H.val hf (hs.mask [false, false, true, true]) (v := .pointer (some ⟨s_g, 0, none⟩)) (i := 19) rfl rfl rfl rfl (by kernel_rfl) (by kernel_rfl) (by kernel_rfl) (V.pure rfl) (fun a hf => ?_)
              refine H.val hf (hs.mask [false, false, true, true]) (v := .pointer (some ⟨s_g, 3, none⟩)) (i := 20) rfl rfl rfl rfl (by kernel_rfl) (by kernel_rfl) (by kernel_rfl) (V.fieldBox rfl rfl Try.runUnderlying52 rfl Try.sizeOf3 rfl rfl) (fun a hf => ?_)
              refine H.one (i := 21) rfl (by kernel_rfl) ?_
              refine S.storeBox 1 hf hs rfl rfl [.int .i64 y3] [.slice s__lA s_.l.length s__lC, .slice s__nowA s_.now.length s__nowC, .slice y2A y2.length y2C, .int .i64 y3] rfl rfl rfl rfl rfl Try.sizeOf3 rfl rfl rfl rfl (fun a w hf hs => ?_)
              refine R.nil ?_
              refine X.then_ ?_
              refine ⟨(hs.mask [false, false, true, true]), ?_⟩
              refine H.done (by kernel_rfl) ?_
              refine X.then_ ?_
              refine wp_ret ?_
              refine X.then_ret ?_
              replace hs := hs.front 2 rfl
              replace hs := hs.front 2 rfl
              replace hs := hs.take 3
              exact L.ret0 Try.results33 hf ⟨(⟨s_.l, s_.now, y2, y3⟩ : R10Search), s__nowA, s__nowC, y2A, y2C, rfl, h, hs⟩
            · refine S.val hf hs (v := .slice s__lA s_.l.length s__lC) rfl rfl rfl (V.loadBox 0 rfl rfl rfl Try.isAgg32 Try.sizeOf32 rfl rfl) (fun a hf => ?_)
              refine R.nil ?_
              refine X.then_ ?_
              refine ⟨(hs.mask [false, true, true]), ?_⟩
              refine H.one (i := 6) rfl (by kernel_rfl) ?_
              refine S.call hf rfl rfl rfl (call_fn (vs := [.slice s__nowA s_.now.length s__nowC]) rfl rfl rfl Try.call32) (R_clone_int s_.now _ s__nowA s__nowC (hs.ownView 1 rfl) _ h) (fun v a w' hf hr => ?_)
              obtain ⟨y2, y2A, y2C, rfl, h2, hs2⟩ := hr
              replace h := h2; replace hs := hs.call hs2; clear h2 hs2
              refine R.nil ?_
              refine X.then_ ?_
              refine ⟨(hs.mask [false, false, true, true]), ?_⟩
              refine H.one (i := 15) rfl (by kernel_rfl) ?_
              refine S.call hf rfl rfl rfl (call_fn (vs := [.slice s__lA s_.l.length s__lC, .slice s__nowA s_.now.length s__nowC]) rfl rfl rfl Try.call29) (R_ref10_makespan s_.l s_.now _ s__lA s__lC ((Ag.args _ _ _).view hv_s__l hs) s__nowA s__nowC (hs.ownView 2 rfl) _ h) (fun v a w' hf hr => ?_)
              obtain ⟨y3, rfl, h2, hs2⟩ := hr
              replace h := h2; replace hs := hs.call hs2; clear h2 hs2
              refine R.nil ?_
              refine X.then_ ?_
              refine ⟨(hs.mask [false, false, true, true]), ?_⟩
              refine H.val hf (hs.mask [false, false, true, true]) (v := .pointer (some ⟨s_g, 0, none⟩)) (i := 16) rfl rfl rfl rfl (by kernel_rfl) (by kernel_rfl) (by kernel_rfl) (V.pure rfl) (fun a hf => ?_)
              refine H.val hf (hs.mask [false, false, true, true]) (v := .pointer (some ⟨s_g, 2, none⟩)) (i := 17) rfl rfl rfl rfl (by kernel_rfl) (by kernel_rfl) (by kernel_rfl) (V.fieldBox rfl rfl Try.runUnderlying52 rfl Try.sizeOf22 rfl rfl) (fun a hf => ?_)
              refine H.one (i := 18) rfl (by kernel_rfl) ?_
              refine S.storeBox 1 hf hs rfl rfl [.slice y2A y2.length y2C] [.slice s__lA s_.l.length s__lC, .slice s__nowA s_.now.length s__nowC, .slice y2A y2.length y2C, .int .i64 s_.most] rfl rfl rfl rfl rfl Try.sizeOf22 rfl rfl rfl rfl (fun a w hf hs => ?_)
              refine R.nil ?_
              refine X.then_ ?_
              refine ⟨(hs.mask [false, false, true, true]), ?_⟩
              refine H.val hf (hs.mask [false, false, true, true]) (v := .pointer (some ⟨s_g, 0, none⟩)) (i := 19) rfl rfl rfl rfl (by kernel_rfl) (by kernel_rfl) (by kernel_rfl) (V.pure rfl) (fun a hf => ?_)
              refine H.val hf (hs.mask [false, false, true, true]) (v := .pointer (some ⟨s_g, 3, none⟩)) (i := 20) rfl rfl rfl rfl (by kernel_rfl) (by kernel_rfl) (by kernel_rfl) (V.fieldBox rfl rfl Try.runUnderlying52 rfl Try.sizeOf3 rfl rfl) (fun a hf => ?_)
              refine H.one (i := 21) rfl (by kernel_rfl) ?_
              refine S.storeBox 1 hf hs rfl rfl [.int .i64 y3] [.slice s__lA s_.l.length s__lC, .slice s__nowA s_.now.length s__nowC, .slice y2A y2.length y2C, .int .i64 y3] rfl rfl rfl rfl rfl Try.sizeOf3 rfl rfl rfl rfl (fun a w hf hs => ?_)
              refine R.nil ?_
              refine X.then_ ?_
              refine ⟨(hs.mask [false, false, true, true]), ?_⟩
              refine H.done (by kernel_rfl) ?_
              refine X.then_ ?_
              refine wp_ret ?_
              refine X.then_ret ?_
              replace hs := hs.front 2 rfl
              replace hs := hs.front 2 rfl
              replace hs := hs.take 3
              exact L.ret0 Try.results33 hf ⟨(⟨s_.l, s_.now, y2, y3⟩ : R10Search), s__nowA, s__nowC, y2A, y2C, rfl, h, hs⟩
        · refine S.val hf hs (v := .slice s__lA s_.l.length s__lC) rfl rfl rfl (V.loadBox 0 rfl rfl rfl Try.isAgg32 Try.sizeOf32 rfl rfl) (fun a hf => ?_)
          refine R.nil ?_
          refine X.then_ ?_
          refine ⟨(hs.mask [false, true, true]), ?_⟩
          refine H.each2 (i0 := 5) (i1 := 14) rfl rfl (by kernel_rfl) ?_ ?_
          · refine S.val hf hs (v := .slice s__nowA s_.now.length s__nowC) rfl rfl rfl (V.loadBox 0 rfl rfl rfl Try.isAgg22 Try.sizeOf22 rfl rfl) (fun a hf => ?_)
            refine R.nil ?_
            refine X.then_ ?_
            refine ⟨(hs.mask [false, true, true]), ?_⟩
            refine H.each2 (i0 := 6) (i1 := 14) rfl rfl (by kernel_rfl) ?_ ?_
            · refine S.call hf rfl rfl rfl (call_fn (vs := [.slice s__nowA s_.now.length s__nowC]) rfl rfl rfl Try.call32) (R_clone_int s_.now _ s__nowA s__nowC (hs.ownView 1 rfl) _ h) (fun v a w' hf hr => ?_)
              obtain ⟨y2, y2A, y2C, rfl, h2, hs2⟩ := hr
              replace h := h2; replace hs := hs.call hs2; clear h2 hs2
              refine R.nil ?_
              refine X.then_ ?_
              refine ⟨(hs.mask [false, false, true, true]), ?_⟩
              refine H.one (i := 14) rfl (by kernel_rfl) ?_
              refine S.val hf hs (v := .slice s__nowA s_.now.length s__nowC) rfl rfl rfl (V.loadBox 1 rfl rfl rfl Try.isAgg22 Try.sizeOf22 rfl rfl) (fun a hf => ?_)
              refine R.nil ?_
              refine X.then_ ?_
              refine ⟨(hs.mask [false, false, true, true]), ?_⟩
              refine H.one (i := 15) rfl (by kernel_rfl) ?_
              refine S.call hf rfl rfl rfl (call_fn (vs := [.slice s__lA s_.l.length s__lC, .slice s__nowA s_.now.length s__nowC]) rfl rfl rfl Try.call29) (R_ref10_makespan s_.l s_.now _ s__lA s__lC ((Ag.args _ _ _).view hv_s__l hs) s__nowA s__nowC (hs.ownView 2 rfl) _ h) (fun v a w' hf hr => ?_)
              obtain ⟨y3, rfl, h2, hs2⟩ := hr
              replace h := h2; replace hs := hs.call hs2; clear h2 hs2
              refine R.nil ?_
              refine X.then_ ?_
              refine ⟨(hs.mask [false, false, true, true]), ?_⟩
              refine H.val hf (hs.mask [false, false, true, true]) (v := .pointer (some ⟨s_g, 0, none⟩)) (i := 16) rfl rfl rfl rfl (by kernel_rfl) (by kernel_rfl) (by kernel_rfl) (V.pure rfl) (fun a hf => ?_)
              refine H.val hf (hs.mask [false, false, true, true]) (v := .pointer (some ⟨s_g, 2, none⟩)) (i := 17) rfl rfl rfl rfl (by kernel_rfl) (by kernel_rfl) (by kernel_rfl) (V.fieldBox rfl rfl Try.runUnderlying52 rfl Try.sizeOf22 rfl rfl) (fun a hf => ?_)
              refine H.one (i := 18) rfl (by kernel_rfl) ?_
              refine S.storeBox 1 hf hs rfl rfl [.slice y2A y2.length y2C] [.slice s__lA s_.l.length s__lC, .slice s__nowA s_.now.length s__nowC, .slice y2A y2.length y2C, .int .i64 s_.most] rfl rfl rfl rfl rfl Try.sizeOf22 rfl rfl rfl rfl (fun a w hf hs => ?_)
              refine R.nil ?_
              refine X.then_ ?_
              refine ⟨(hs.mask [false, false, true, true]), ?_⟩
              refine H.val hf (hs.mask [false, false, true, true]) (v := .pointer (some ⟨s_g, 0, none⟩)) (i := 19) rfl rfl rfl rfl (by kernel_rfl) (by kernel_rfl) (by kernel_rfl) (V.pure rfl) (fun a hf => ?_)
              refine H.val hf (hs.mask [false, false, true, true]) (v := .pointer (some ⟨s_g, 3, none⟩)) (i := 20) rfl rfl rfl rfl (by kernel_rfl) (by kernel_rfl) (by kernel_rfl) (V.fieldBox rfl rfl Try.runUnderlying52 rfl Try.sizeOf3 rfl rfl) (fun a hf => ?_)
              refine H.one (i := 21) rfl (by kernel_rfl) ?_
              refine S.storeBox 1 hf hs rfl rfl [.int .i64 y3] [.slice s__lA s_.l.length s__lC, .slice s__nowA s_.now.length s__nowC, .slice y2A y2.length y2C, .int .i64 y3] rfl rfl rfl rfl rfl Try.sizeOf3 rfl rfl rfl rfl (fun a w hf hs => ?_)
              refine R.nil ?_
              refine X.then_ ?_
              refine ⟨(hs.mask [false, false, true, true]), ?_⟩
              refine H.done (by kernel_rfl) ?_
              refine X.then_ ?_
              refine wp_ret ?_
              refine X.then_ret ?_
              replace hs := hs.front 2 rfl
              replace hs := hs.front 2 rfl
              replace hs := hs.take 3
              exact L.ret0 Try.results33 hf ⟨(⟨s_.l, s_.now, y2, y3⟩ : R10Search), s__nowA, s__nowC, y2A, y2C, rfl, h, hs⟩
            · refine S.val hf hs (v := .slice s__nowA s_.now.length s__nowC) rfl rfl rfl (V.loadBox 0 rfl rfl rfl Try.isAgg22 Try.sizeOf22 rfl rfl) (fun a hf => ?_)
              refine R.nil ?_
              refine X.then_ ?_
              refine ⟨(hs.mask [false, true, true]), ?_⟩
              refine H.one (i := 6) rfl (by kernel_rfl) ?_
              refine S.call hf rfl rfl rfl (call_fn (vs := [.slice s__nowA s_.now.length s__nowC]) rfl rfl rfl Try.call32) (R_clone_int s_.now _ s__nowA s__nowC (hs.ownView 1 rfl) _ h) (fun v a w' hf hr => ?_)
              obtain ⟨y2, y2A, y2C, rfl, h2, hs2⟩ := hr
              replace h := h2; replace hs := hs.call hs2; clear h2 hs2
              refine R.nil ?_
              refine X.then_ ?_
              refine ⟨(hs.mask [false, false, true, true]), ?_⟩
              refine H.one (i := 15) rfl (by kernel_rfl) ?_
              refine S.call hf rfl rfl rfl (call_fn (vs := [.slice s__lA s_.l.length s__lC, .slice s__nowA s_.now.length s__nowC]) rfl rfl rfl Try.call29) (R_ref10_makespan s_.l s_.now _ s__lA s__lC ((Ag.args _ _ _).view hv_s__l hs) s__nowA s__nowC (hs.ownView 2 rfl) _ h) (fun v a w' hf hr => ?_)
              obtain ⟨y3, rfl, h2, hs2⟩ := hr
              replace h := h2; replace hs := hs.call hs2; clear h2 hs2
              refine R.nil ?_
              refine X.then_ ?_
              refine ⟨(hs.mask [false, false, true, true]), ?_⟩
              refine H.val hf (hs.mask [false, false, true, true]) (v := .pointer (some ⟨s_g, 0, none⟩)) (i := 16) rfl rfl rfl rfl (by kernel_rfl) (by kernel_rfl) (by kernel_rfl) (V.pure rfl) (fun a hf => ?_)
              refine H.val hf (hs.mask [false, false, true, true]) (v := .pointer (some ⟨s_g, 2, none⟩)) (i := 17) rfl rfl rfl rfl (by kernel_rfl) (by kernel_rfl) (by kernel_rfl) (V.fieldBox rfl rfl Try.runUnderlying52 rfl Try.sizeOf22 rfl rfl) (fun a hf => ?_)
              refine H.one (i := 18) rfl (by kernel_rfl) ?_
              refine S.storeBox 1 hf hs rfl rfl [.slice y2A y2.length y2C] [.slice s__lA s_.l.length s__lC, .slice s__nowA s_.now.length s__nowC, .slice y2A y2.length y2C, .int .i64 s_.most] rfl rfl rfl rfl rfl Try.sizeOf22 rfl rfl rfl rfl (fun a w hf hs => ?_)
              refine R.nil ?_
              refine X.then_ ?_
              refine ⟨(hs.mask [false, false, true, true]), ?_⟩
              refine H.val hf (hs.mask [false, false, true, true]) (v := .pointer (some ⟨s_g, 0, none⟩)) (i := 19) rfl rfl rfl rfl (by kernel_rfl) (by kernel_rfl) (by kernel_rfl) (V.pure rfl) (fun a hf => ?_)
              refine H.val hf (hs.mask [false, false, true, true]) (v := .pointer (some ⟨s_g, 3, none⟩)) (i := 20) rfl rfl rfl rfl (by kernel_rfl) (by kernel_rfl) (by kernel_rfl) (V.fieldBox rfl rfl Try.runUnderlying52 rfl Try.sizeOf3 rfl rfl) (fun a hf => ?_)
              refine H.one (i := 21) rfl (by kernel_rfl) ?_
              refine S.storeBox 1 hf hs rfl rfl [.int .i64 y3] [.slice s__lA s_.l.length s__lC, .slice s__nowA s_.now.length s__nowC, .slice y2A y2.length y2C, .int .i64 y3] rfl rfl rfl rfl rfl Try.sizeOf3 rfl rfl rfl rfl (fun a w hf hs => ?_)
              refine R.nil ?_
              refine X.then_ ?_
              refine ⟨(hs.mask [false, false, true, true]), ?_⟩
              refine H.done (by kernel_rfl) ?_
              refine X.then_ ?_
              refine wp_ret ?_
              refine X.then_ret ?_
              replace hs := hs.front 2 rfl
              replace hs := hs.front 2 rfl
              replace hs := hs.take 3
              exact L.ret0 Try.results33 hf ⟨(⟨s_.l, s_.now, y2, y3⟩ : R10Search), s__nowA, s__nowC, y2A, y2C, rfl, h, hs⟩
          · refine S.val hf hs (v := .slice s__nowA s_.now.length s__nowC) rfl rfl rfl (V.loadBox 0 rfl rfl rfl Try.isAgg22 Try.sizeOf22 rfl rfl) (fun a hf => ?_)
            refine R.nil ?_
            refine X.then_ ?_
            refine ⟨(hs.mask [false, true, true]), ?_⟩
            refine H.one (i := 5) rfl (by kernel_rfl) ?_
            refine S.val hf hs (v := .slice s__nowA s_.now.length s__nowC) rfl rfl rfl (V.loadBox 0 rfl rfl rfl Try.isAgg22 Try.sizeOf22 rfl rfl) (fun a hf => ?_)
            refine R.nil ?_
            refine X.then_ ?_
            refine ⟨(hs.mask [false, true, true]), ?_⟩
            refine H.one (i := 6) rfl (by kernel_rfl) ?_
            refine S.call hf rfl rfl rfl (call_fn (vs := [.slice s__nowA s_.now.length s__nowC]) rfl rfl rfl Try.call32) (R_clone_int s_.now _ s__nowA s__nowC (hs.ownView 1 rfl) _ h) (fun v a w' hf hr => ?_)
            obtain ⟨y2, y2A, y2C, rfl, h2, hs2⟩ := hr
            replace h := h2; replace hs := hs.call hs2; clear h2 hs2
            refine R.nil ?_
            refine X.then_ ?_
            refine ⟨(hs.mask [false, false, true, true]), ?_⟩
            refine H.one (i := 15) rfl (by kernel_rfl) ?_
            refine S.call hf rfl rfl rfl (call_fn (vs := [.slice s__lA s_.l.length s__lC, .slice s__nowA s_.now.length s__nowC]) rfl rfl rfl Try.call29) (R_ref10_makespan s_.l s_.now _ s__lA s__lC ((Ag.args _ _ _).view hv_s__l hs) s__nowA s__nowC (hs.ownView 2 rfl) _ h) (fun v a w' hf hr => ?_)
            obtain ⟨y3, rfl, h2, hs2⟩ := hr
            replace h := h2; replace hs := hs.call hs2; clear h2 hs2
            refine R.nil ?_
            refine X.then_ ?_
            refine ⟨(hs.mask [false, false, true, true]), ?_⟩
            refine H.val hf (hs.mask [false, false, true, true]) (v := .pointer (some ⟨s_g, 0, none⟩)) (i := 16) rfl rfl rfl rfl (by kernel_rfl) (by kernel_rfl) (by kernel_rfl) (V.pure rfl) (fun a hf => ?_)
            refine H.val hf (hs.mask [false, false, true, true]) (v := .pointer (some ⟨s_g, 2, none⟩)) (i := 17) rfl rfl rfl rfl (by kernel_rfl) (by kernel_rfl) (by kernel_rfl) (V.fieldBox rfl rfl Try.runUnderlying52 rfl Try.sizeOf22 rfl rfl) (fun a hf => ?_)
            refine H.one (i := 18) rfl (by kernel_rfl) ?_
            refine S.storeBox 1 hf hs rfl rfl [.slice y2A y2.length y2C] [.slice s__lA s_.l.length s__lC, .slice s__nowA s_.now.length s__nowC, .slice y2A y2.length y2C, .int .i64 s_.most] rfl rfl rfl rfl rfl Try.sizeOf22 rfl rfl rfl rfl (fun a w hf hs => ?_)
            refine R.nil ?_
            refine X.then_ ?_
            refine ⟨(hs.mask [false, false, true, true]), ?_⟩
            refine H.val hf (hs.mask [false, false, true, true]) (v := .pointer (some ⟨s_g, 0, none⟩)) (i := 19) rfl rfl rfl rfl (by kernel_rfl) (by kernel_rfl) (by kernel_rfl) (V.pure rfl) (fun a hf => ?_)
            refine H.val hf (hs.mask [false, false, true, true]) (v := .pointer (some ⟨s_g, 3, none⟩)) (i := 20) rfl rfl rfl rfl (by kernel_rfl) (by kernel_rfl) (by kernel_rfl) (V.fieldBox rfl rfl Try.runUnderlying52 rfl Try.sizeOf3 rfl rfl) (fun a hf => ?_)
            refine H.one (i := 21) rfl (by kernel_rfl) ?_
            refine S.storeBox 1 hf hs rfl rfl [.int .i64 y3] [.slice s__lA s_.l.length s__lC, .slice s__nowA s_.now.length s__nowC, .slice y2A y2.length y2C, .int .i64 y3] rfl rfl rfl rfl rfl Try.sizeOf3 rfl rfl rfl rfl (fun a w hf hs => ?_)
            refine R.nil ?_
            refine X.then_ ?_
            refine ⟨(hs.mask [false, false, true, true]), ?_⟩
            refine H.done (by kernel_rfl) ?_
            refine X.then_ ?_
            refine wp_ret ?_
            refine X.then_ret ?_
            replace hs := hs.front 2 rfl
            replace hs := hs.front 2 rfl
            replace hs := hs.take 3
            exact L.ret0 Try.results33 hf ⟨(⟨s_.l, s_.now, y2, y3⟩ : R10Search), s__nowA, s__nowC, y2A, y2C, rfl, h, hs⟩
        · refine S.val hf hs (v := .slice s__nowA s_.now.length s__nowC) rfl rfl rfl (V.loadBox 0 rfl rfl rfl Try.isAgg22 Try.sizeOf22 rfl rfl) (fun a hf => ?_)
          refine R.nil ?_
          refine X.then_ ?_
          refine ⟨(hs.mask [false, true, true]), ?_⟩
          refine H.each2 (i0 := 5) (i1 := 10) rfl rfl (by kernel_rfl) ?_ ?_
          · refine S.val hf hs (v := .slice s__nowA s_.now.length s__nowC) rfl rfl rfl (V.loadBox 0 rfl rfl rfl Try.isAgg22 Try.sizeOf22 rfl rfl) (fun a hf => ?_)
            refine R.nil ?_
            refine X.then_ ?_
            refine ⟨(hs.mask [false, true, true]), ?_⟩
            refine H.each2 (i0 := 6) (i1 := 10) rfl rfl (by kernel_rfl) ?_ ?_
            · refine S.call hf rfl rfl rfl (call_fn (vs := [.slice s__nowA s_.now.length s__nowC]) rfl rfl rfl Try.call32) (R_clone_int s_.now _ s__nowA s__nowC (hs.ownView 1 rfl) _ h) (fun v a w' hf hr => ?_)
              obtain ⟨y2, y2A, y2C, rfl, h2, hs2⟩ := hr
              replace h := h2; replace hs := hs.call hs2; clear h2 hs2
              refine R.nil ?_
              refine X.then_ ?_
              refine ⟨(hs.mask [false, false, true, true]), ?_⟩
              refine H.one (i := 10) rfl (by kernel_rfl) ?_
              refine S.val hf hs (v := .slice s__lA s_.l.length s__lC) rfl rfl rfl (V.loadBox 1 rfl rfl rfl Try.isAgg32 Try.sizeOf32 rfl rfl) (fun a hf => ?_)
              refine R.nil ?_
              refine X.then_ ?_
              refine ⟨(hs.mask [false, false, true, true]), ?_⟩
              refine H.one (i := 15) rfl (by kernel_rfl) ?_
              refine S.call hf rfl rfl rfl (call_fn (vs := [.slice s__lA s_.l.length s__lC, .slice s__nowA s_.now.length s__nowC]) rfl rfl rfl Try.call29) (R_ref10_makespan s_.l s_.now _ s__lA s__lC ((Ag.args _ _ _).view hv_s__l hs) s__nowA s__nowC (hs.ownView 2 rfl) _ h) (fun v a w' hf hr => ?_)
              obtain ⟨y3, rfl, h2, hs2⟩ := hr
              replace h := h2; replace hs := hs.call hs2; clear h2 hs2
              refine R.nil ?_
              refine X.then_ ?_
              refine ⟨(hs.mask [false, false, true, true]), ?_⟩
              refine H.val hf (hs.mask [false, false, true, true]) (v := .pointer (some ⟨s_g, 0, none⟩)) (i := 16) rfl rfl rfl rfl (by kernel_rfl) (by kernel_rfl) (by kernel_rfl) (V.pure rfl) (fun a hf => ?_)
              refine H.val hf (hs.mask [false, false, true, true]) (v := .pointer (some ⟨s_g, 2, none⟩)) (i := 17) rfl rfl rfl rfl (by kernel_rfl) (by kernel_rfl) (by kernel_rfl) (V.fieldBox rfl rfl Try.runUnderlying52 rfl Try.sizeOf22 rfl rfl) (fun a hf => ?_)
              refine H.one (i := 18) rfl (by kernel_rfl) ?_
              refine S.storeBox 1 hf hs rfl rfl [.slice y2A y2.length y2C] [.slice s__lA s_.l.length s__lC, .slice s__nowA s_.now.length s__nowC, .slice y2A y2.length y2C, .int .i64 s_.most] rfl rfl rfl rfl rfl Try.sizeOf22 rfl rfl rfl rfl (fun a w hf hs => ?_)
              refine R.nil ?_
              refine X.then_ ?_
              refine ⟨(hs.mask [false, false, true, true]), ?_⟩
              refine H.val hf (hs.mask [false, false, true, true]) (v := .pointer (some ⟨s_g, 0, none⟩)) (i := 19) rfl rfl rfl rfl (by kernel_rfl) (by kernel_rfl) (by kernel_rfl) (V.pure rfl) (fun a hf => ?_)
              refine H.val hf (hs.mask [false, false, true, true]) (v := .pointer (some ⟨s_g, 3, none⟩)) (i := 20) rfl rfl rfl rfl (by kernel_rfl) (by kernel_rfl) (by kernel_rfl) (V.fieldBox rfl rfl Try.runUnderlying52 rfl Try.sizeOf3 rfl rfl) (fun a hf => ?_)
              refine H.one (i := 21) rfl (by kernel_rfl) ?_
              refine S.storeBox 1 hf hs rfl rfl [.int .i64 y3] [.slice s__lA s_.l.length s__lC, .slice s__nowA s_.now.length s__nowC, .slice y2A y2.length y2C, .int .i64 y3] rfl rfl rfl rfl rfl Try.sizeOf3 rfl rfl rfl rfl (fun a w hf hs => ?_)
              refine R.nil ?_
              refine X.then_ ?_
              refine ⟨(hs.mask [false, false, true, true]), ?_⟩
              refine H.done (by kernel_rfl) ?_
              refine X.then_ ?_
              refine wp_ret ?_
              refine X.then_ret ?_
              replace hs := hs.front 2 rfl
              replace hs := hs.front 2 rfl
              replace hs := hs.take 3
              exact L.ret0 Try.results33 hf ⟨(⟨s_.l, s_.now, y2, y3⟩ : R10Search), s__nowA, s__nowC, y2A, y2C, rfl, h, hs⟩
            · refine S.val hf hs (v := .slice s__lA s_.l.length s__lC) rfl rfl rfl (V.loadBox 0 rfl rfl rfl Try.isAgg32 Try.sizeOf32 rfl rfl) (fun a hf => ?_)
              refine R.nil ?_
              refine X.then_ ?_
              refine ⟨(hs.mask [false, true, true]), ?_⟩
              refine H.one (i := 6) rfl (by kernel_rfl) ?_
              refine S.call hf rfl rfl rfl (call_fn (vs := [.slice s__nowA s_.now.length s__nowC]) rfl rfl rfl Try.call32) (R_clone_int s_.now _ s__nowA s__nowC (hs.ownView 1 rfl) _ h) (fun v a w' hf hr => ?_)
              obtain ⟨y2, y2A, y2C, rfl, h2, hs2⟩ := hr
              replace h := h2; replace hs := hs.call hs2; clear h2 hs2
              refine R.nil ?_
              refine X.then_ ?_
              refine ⟨(hs.mask [false, false, true, true]), ?_⟩
              refine H.one (i := 15) rfl (by kernel_rfl) ?_
              refine S.call hf rfl rfl rfl (call_fn (vs := [.slice s__lA s_.l.length s__lC, .slice s__nowA s_.now.length s__nowC]) rfl rfl rfl Try.call29) (R_ref10_makespan s_.l s_.now _ s__lA s__lC ((Ag.args _ _ _).view hv_s__l hs) s__nowA s__nowC (hs.ownView 2 rfl) _ h) (fun v a w' hf hr => ?_)
              obtain ⟨y3, rfl, h2, hs2⟩ := hr
              replace h := h2; replace hs := hs.call hs2; clear h2 hs2
              refine R.nil ?_
              refine X.then_ ?_
              refine ⟨(hs.mask [false, false, true, true]), ?_⟩
              refine H.val hf (hs.mask [false, false, true, true]) (v := .pointer (some ⟨s_g, 0, none⟩)) (i := 16) rfl rfl rfl rfl (by kernel_rfl) (by kernel_rfl) (by kernel_rfl) (V.pure rfl) (fun a hf => ?_)
              refine H.val hf (hs.mask [false, false, true, true]) (v := .pointer (some ⟨s_g, 2, none⟩)) (i := 17) rfl rfl rfl rfl (by kernel_rfl) (by kernel_rfl) (by kernel_rfl) (V.fieldBox rfl rfl Try.runUnderlying52 rfl Try.sizeOf22 rfl rfl) (fun a hf => ?_)
              refine H.one (i := 18) rfl (by kernel_rfl) ?_
              refine S.storeBox 1 hf hs rfl rfl [.slice y2A y2.length y2C] [.slice s__lA s_.l.length s__lC, .slice s__nowA s_.now.length s__nowC, .slice y2A y2.length y2C, .int .i64 s_.most] rfl rfl rfl rfl rfl Try.sizeOf22 rfl rfl rfl rfl (fun a w hf hs => ?_)
              refine R.nil ?_
              refine X.then_ ?_
              refine ⟨(hs.mask [false, false, true, true]), ?_⟩
              refine H.val hf (hs.mask [false, false, true, true]) (v := .pointer (some ⟨s_g, 0, none⟩)) (i := 19) rfl rfl rfl rfl (by kernel_rfl) (by kernel_rfl) (by kernel_rfl) (V.pure rfl) (fun a hf => ?_)
              refine H.val hf (hs.mask [false, false, true, true]) (v := .pointer (some ⟨s_g, 3, none⟩)) (i := 20) rfl rfl rfl rfl (by kernel_rfl) (by kernel_rfl) (by kernel_rfl) (V.fieldBox rfl rfl Try.runUnderlying52 rfl Try.sizeOf3 rfl rfl) (fun a hf => ?_)
              refine H.one (i := 21) rfl (by kernel_rfl) ?_
              refine S.storeBox 1 hf hs rfl rfl [.int .i64 y3] [.slice s__lA s_.l.length s__lC, .slice s__nowA s_.now.length s__nowC, .slice y2A y2.length y2C, .int .i64 y3] rfl rfl rfl rfl rfl Try.sizeOf3 rfl rfl rfl rfl (fun a w hf hs => ?_)
              refine R.nil ?_
              refine X.then_ ?_
              refine ⟨(hs.mask [false, false, true, true]), ?_⟩
              refine H.done (by kernel_rfl) ?_
              refine X.then_ ?_
              refine wp_ret ?_
              refine X.then_ret ?_
              replace hs := hs.front 2 rfl
              replace hs := hs.front 2 rfl
              replace hs := hs.take 3
              exact L.ret0 Try.results33 hf ⟨(⟨s_.l, s_.now, y2, y3⟩ : R10Search), s__nowA, s__nowC, y2A, y2C, rfl, h, hs⟩
          · refine S.val hf hs (v := .slice s__lA s_.l.length s__lC) rfl rfl rfl (V.loadBox 0 rfl rfl rfl Try.isAgg32 Try.sizeOf32 rfl rfl) (fun a hf => ?_)
            refine R.nil ?_
            refine X.then_ ?_
            refine ⟨(hs.mask [false, true, true]), ?_⟩
            refine H.one (i := 5) rfl (by kernel_rfl) ?_
            refine S.val hf hs (v := .slice s__nowA s_.now.length s__nowC) rfl rfl rfl (V.loadBox 0 rfl rfl rfl Try.isAgg22 Try.sizeOf22 rfl rfl) (fun a hf => ?_)
            refine R.nil ?_
            refine X.then_ ?_
            refine ⟨(hs.mask [false, true, true]), ?_⟩
            refine H.one (i := 6) rfl (by kernel_rfl) ?_
            refine S.call hf rfl rfl rfl (call_fn (vs := [.slice s__nowA s_.now.length s__nowC]) rfl rfl rfl Try.call32) (R_clone_int s_.now _ s__nowA s__nowC (hs.ownView 1 rfl) _ h) (fun v a w' hf hr => ?_)
            obtain ⟨y2, y2A, y2C, rfl, h2, hs2⟩ := hr
            replace h := h2; replace hs := hs.call hs2; clear h2 hs2
            refine R.nil ?_
            refine X.then_ ?_
            refine ⟨(hs.mask [false, false, true, true]), ?_⟩
            refine H.one (i := 15) rfl (by kernel_rfl) ?_
            refine S.call hf rfl rfl rfl (call_fn (vs := [.slice s__lA s_.l.length s__lC, .slice s__nowA s_.now.length s__nowC]) rfl rfl rfl Try.call29) (R_ref10_makespan s_.l s_.now _ s__lA s__lC ((Ag.args _ _ _).view hv_s__l hs) s__nowA s__nowC (hs.ownView 2 rfl) _ h) (fun v a w' hf hr => ?_)
            obtain ⟨y3, rfl, h2, hs2⟩ := hr
            replace h := h2; replace hs := hs.call hs2; clear h2 hs2
            refine R.nil ?_
            refine X.then_ ?_
            refine ⟨(hs.mask [false, false, true, true]), ?_⟩
            refine H.val hf (hs.mask [false, false, true, true]) (v := .pointer (some ⟨s_g, 0, none⟩)) (i := 16) rfl rfl rfl rfl (by kernel_rfl) (by kernel_rfl) (by kernel_rfl) (V.pure rfl) (fun a hf => ?_)
            refine H.val hf (hs.mask [false, false, true, true]) (v := .pointer (some ⟨s_g, 2, none⟩)) (i := 17) rfl rfl rfl rfl (by kernel_rfl) (by kernel_rfl) (by kernel_rfl) (V.fieldBox rfl rfl Try.runUnderlying52 rfl Try.sizeOf22 rfl rfl) (fun a hf => ?_)
            refine H.one (i := 18) rfl (by kernel_rfl) ?_
            refine S.storeBox 1 hf hs rfl rfl [.slice y2A y2.length y2C] [.slice s__lA s_.l.length s__lC, .slice s__nowA s_.now.length s__nowC, .slice y2A y2.length y2C, .int .i64 s_.most] rfl rfl rfl rfl rfl Try.sizeOf22 rfl rfl rfl rfl (fun a w hf hs => ?_)
            refine R.nil ?_
            refine X.then_ ?_
            refine ⟨(hs.mask [false, false, true, true]), ?_⟩
            refine H.val hf (hs.mask [false, false, true, true]) (v := .pointer (some ⟨s_g, 0, none⟩)) (i := 19) rfl rfl rfl rfl (by kernel_rfl) (by kernel_rfl) (by kernel_rfl) (V.pure rfl) (fun a hf => ?_)
            refine H.val hf (hs.mask [false, false, true, true]) (v := .pointer (some ⟨s_g, 3, none⟩)) (i := 20) rfl rfl rfl rfl (by kernel_rfl) (by kernel_rfl) (by kernel_rfl) (V.fieldBox rfl rfl Try.runUnderlying52 rfl Try.sizeOf3 rfl rfl) (fun a hf => ?_)
            refine H.one (i := 21) rfl (by kernel_rfl) ?_
            refine S.storeBox 1 hf hs rfl rfl [.int .i64 y3] [.slice s__lA s_.l.length s__lC, .slice s__nowA s_.now.length s__nowC, .slice y2A y2.length y2C, .int .i64 y3] rfl rfl rfl rfl rfl Try.sizeOf3 rfl rfl rfl rfl (fun a w hf hs => ?_)
            refine R.nil ?_
            refine X.then_ ?_
            refine ⟨(hs.mask [false, false, true, true]), ?_⟩
            refine H.done (by kernel_rfl) ?_
            refine X.then_ ?_
            refine wp_ret ?_
            refine X.then_ret ?_
            replace hs := hs.front 2 rfl
            replace hs := hs.front 2 rfl
            replace hs := hs.take 3
            exact L.ret0 Try.results33 hf ⟨(⟨s_.l, s_.now, y2, y3⟩ : R10Search), s__nowA, s__nowC, y2A, y2C, rfl, h, hs⟩
      · replace h := h.2 hc
        refine wp_skip ?_
        refine X.then_ ?_
        refine wp_seq ?_
        refine R.list ?_
        refine S.val hf hs (v := .pointer (some ⟨s_g, 0, none⟩)) rfl rfl rfl (V.pure rfl) (fun a hf => ?_)
        refine S.val hf hs (v := .pointer (some ⟨s_g, 0, none⟩)) rfl rfl rfl (V.pure rfl) (fun a hf => ?_)
        refine S.val hf hs (v := .pointer (some ⟨s_g, 0, none⟩)) rfl rfl rfl (V.fieldBox rfl rfl Try.runUnderlying52 rfl Try.sizeOf32 rfl rfl) (fun a hf => ?_)
        refine S.val hf hs (v := .slice s__lA s_.l.length s__lC) rfl rfl rfl (V.loadBox 0 rfl rfl rfl Try.isAgg32 Try.sizeOf32 rfl rfl) (fun a hf => ?_)
        refine S.val hf hs (v := .int .i64 (s_.l.length : Int)) rfl rfl rfl (V.len rfl rfl Try.runUnderlying32) (fun a hf => ?_)
        refine S.val hf hs (v := .int .i64 0) rfl rfl rfl (V.pure rfl) (fun a hf => ?_)
        refine R.nil ?_
        refine X.then_ ?_
        refine wp_block ?_
        have hlenk2 := hv_s__l.len64
        refine C.range (fun (ll : List Batch) a w => ∃ (k2 : Nat) (l3 : List Int) (l3A : Option Addr) (l3C : Nat) (l4 : List Int) (l4A : Option Addr) (l4C : Nat) (b2 : Int), s_.l.drop k2 = ll ∧ k2 + ll.length = s_.l.length ∧ forIn' (fun k x (s : List Int × List Int × Int) next => M_ref10_goOn_L1 s_ rec_ k x s.1 s.2.1 s.2.2 (fun l3 l4 b2 => next (l3, l4, b2))) (fun (s : List Int × List Int × Int) => (fun (l3 : List Int) (l4 : List Int) (b2 : Int) => Q (⟨s_.l, l3, l4, b2⟩ : R10Search)) s.1 s.2.1 s.2.2) ll k2 (l3, l4, b2) ∧ FrOk 98 [(62, .int .i64 (k2 : Int)), (0, .pointer (some ⟨s_g, 0, none⟩)), (61, .int .i64 (s_.l.length : Int))] a ∧ Sat w0 F0 [hbox s_g 52 [.slice s__lA s_.l.length s__lC, .slice l3A l3.length l3C, .slice l4A l4.length l4C, .int .i64 b2], hown 3 l3A l3C l3, hown 3 l4A l4C l4] w) s_.l ⟨0, s_.now, s__nowA, s__nowC, s_.best, s__bestA, s__bestC, s_.most, rfl, Nat.zero_add _, h, (((hf.nil.cons (hf.get 61 _ rfl)).cons (hf.get 0 _ rfl)).cons (hf.get 62 _ rfl)), hs⟩ ?_
        clear h hf hs
        rintro llk2 a w ⟨k2, l3, l3A, l3C, l4, l4A, l4C, b2, hlk2, hkk2, h, hf, hs⟩
        cases llk2 with
        | nil =>
          have hc := range_done hkk2
          replace h : (fun (l3 : List Int) (l4 : List Int) (b2 : Int) => Q (⟨s_.l, l3, l4, b2⟩ : R10Search)) l3 l4 b2 := h
          refine wp_seq ?_
          refine R.list ?_
          refine S.val hf hs (v := .bool false) rfl rfl rfl (V.cmp false rfl rfl rfl rfl hc) (fun a hf => ?_)
          refine R.nil ?_
          refine X.then_ ?_
          refine wp_seq ?_
          refine C.no hf rfl ?_
          refine wp_exit ?_
          refine X.then_exit ?_
          refine X.then_exit ?_
          refine X.blk_exit ?_
          replace hs := hs.front 2 rfl
          replace hs := hs.front 2 rfl
          replace hs := hs.front 2 rfl
          replace hs := hs.take 3
          exact L.end0 Try.results33 hf ⟨(⟨s_.l, l3, l4, b2⟩ : R10Search), l3A, l3C, l4A, l4C, rfl, h, hs⟩
        | cons xk2 llk2 =>
          have hltk2 := range_lt hkk2; have hc := range_go hkk2; have hxk2 := range_get hlk2
          obtain ⟨next1, hnext1⟩ : ∃ X : List Int → List Int → Int → Prop, X = (fun l3 l4 b2 => forIn' (fun k x (s : List Int × List Int × Int) next => M_ref10_goOn_L1 s_ rec_ k x s.1 s.2.1 s.2.2 (fun l3 l4 b2 => next (l3, l4, b2))) (fun (s : List Int × List Int × Int) => (fun (l3 : List Int) (l4 : List Int) (b2 : Int) => Q (⟨s_.l, l3, l4, b2⟩ : R10Search)) s.1 s.2.1 s.2.2) llk2 (k2 + 1) (l3, l4, b2)) := ⟨_, rfl⟩
          replace h : M_ref10_goOn_L1 s_ rec_ k2 xk2 l3 l4 b2 next1 := by rw [hnext1]; exact h
          unfold M_ref10_goOn_L1 at h
          refine wp_seq ?_
          refine R.list ?_
          refine S.val hf hs (v := .bool true) rfl rfl rfl (V.cmp true rfl rfl rfl rfl hc) (fun a hf => ?_)
          refine R.nil ?_
          refine X.then_ ?_
          refine wp_seq ?_
          refine C.yes hf rfl ?_
          refine wp_skip ?_
          refine X.then_ ?_
          refine wp_seq ?_
          refine wp_block ?_
          refine wp_seq ?_
          refine R.list ?_
          refine S.val hf hs (v := .int .i64 (k2 : Int)) rfl rfl rfl (V.pure rfl) (fun a hf => ?_)
          refine S.val hf hs (v := .int .i64 (k2 : Int)) rfl rfl rfl (V.pure rfl) (fun a hf => ?_)
          refine R.nil ?_
          refine X.then_ ?_
          refine wp_seq ?_
          refine wp_seq ?_
          refine R.list ?_
          refine S.val hf hs (v := .pointer (some ⟨s_g, 0, none⟩)) rfl rfl rfl (V.pure rfl) (fun a hf => ?_)
          refine S.val hf hs (v := .pointer (some ⟨s_g, 0, none⟩)) rfl rfl rfl (V.pure rfl) (fun a hf => ?_)
          refine S.val hf hs (v := .pointer (some ⟨s_g, 1, none⟩)) rfl rfl rfl (V.fieldBox rfl rfl Try.runUnderlying52 rfl Try.sizeOf22 rfl rfl) (fun a hf => ?_)
          refine S.val hf hs (v := .slice l3A l3.length l3C) rfl rfl rfl (V.loadBox 0 rfl rfl rfl Try.isAgg22 Try.sizeOf22 rfl rfl) (fun a hf => ?_)
          refine S.val hf hs (v := .int .i64 (k2 : Int)) rfl rfl rfl (V.pure rfl) (fun a hf => ?_)
          refine S.call hf rfl rfl rfl (call_fn (vs := [.slice l3A l3.length l3C, .int .i64 (k2 : Int)]) rfl rfl rfl Try.call11) (R_contains_int l3 (k2 : Int) _ l3A l3C (hs.ownView 1 rfl) _ h) (fun v a w' hf hr => ?_)
          obtain ⟨y4, rfl, h2, hs2⟩ := hr
          replace h := h2; replace hs := hs.call hs2; clear h2 hs2
          refine R.nil ?_
          refine X.then_ ?_
          refine C.cond hf (b := y4) rfl (fun hc => ?_) (fun hc => ?_)
          · replace h := h.1 hc
            refine wp_exit ?_
            refine X.then_exit ?_
            refine X.blk_exit ?_
            refine X.then_ ?_
            refine R.list ?_
            refine S.val hf hs (v := .int .i64 ((k2 + 1 : Nat) : Int)) rfl rfl rfl (V.incr rfl rfl rfl hltk2 hlenk2) (fun a hf => ?_)
            refine S.val hf hs (v := .int .i64 ((k2 + 1 : Nat) : Int)) rfl rfl rfl (V.pure rfl) (fun a hf => ?_)
            refine R.nil ?_
            refine X.then_ ?_
            exact ⟨xk2, llk2, rfl, k2 + 1, l3, l3A, l3C, l4, l4A, l4C, b2, range_drop hlk2, range_len hkk2, (by rw [hnext1] at h; exact h), (((hf.nil.cons (hf.get 61 _ rfl)).cons (hf.get 0 _ rfl)).cons (hf.get 62 _ rfl)), hs⟩
          · replace h := h.2 hc
            refine wp_skip ?_
            refine X.then_ ?_
            refine wp_seq ?_
            refine R.list ?_
            refine S.val hf hs (v := .pointer (some ⟨s_g, 0, none⟩)) rfl rfl rfl (V.pure rfl) (fun a hf => ?_)
            refine S.val hf hs (v := .pointer (some ⟨s_g, 0, none⟩)) rfl rfl rfl (V.pure rfl) (fun a hf => ?_)
            refine S.val hf hs (v := .pointer (some ⟨s_g, 0, none⟩)) rfl rfl rfl (V.pure rfl) (fun a hf => ?_)
            refine S.val hf hs (v := .pointer (some ⟨s_g, 1, none⟩)) rfl rfl rfl (V.fieldBox rfl rfl Try.runUnderlying52 rfl Try.sizeOf22 rfl rfl) (fun a hf => ?_)
            refine S.val hf hs (v := .slice l3A l3.length l3C) rfl rfl rfl (V.loadBox 0 rfl rfl rfl Try.isAgg22 Try.sizeOf22 rfl rfl) (fun a hf => ?_)
            refine S.val hf hs (v := .int .i64 (k2 : Int)) rfl rfl rfl (V.pure rfl) (fun a hf => ?_)
            refine S.build1 hf hs rfl rfl rfl (α := Int) (k2 : Int) rfl rfl rfl Try.runUnderlying22 Try.sizeOf3 Try.zeroValue3 rfl (by decide) (fun A1 a w hf hs => ?_)
            obtain ⟨hroom, h⟩ := h
            refine S.appendCells 2 hf hs rfl rfl rfl rfl rfl rfl rfl Try.underlying22 info3 rfl hroom ((hs.ownView 0 rfl).some_ (i := 0) (by simp)) (hs.ownView 0 rfl) (fun A2 C1 a w hf hs => ?_)
            replace hs := hs.drop
            refine S.val hf hs (v := .pointer (some ⟨s_g, 0, none⟩)) rfl rfl rfl (V.pure rfl) (fun a hf => ?_)
            refine S.val hf hs (v := .pointer (some ⟨s_g, 1, none⟩)) rfl rfl rfl (V.fieldBox rfl rfl Try.runUnderlying52 rfl Try.sizeOf22 rfl rfl) (fun a hf => ?_)
            refine S.storeBox 0 hf hs rfl rfl [.slice A2 (l3 ++ [(k2 : Int)]).length C1] [.slice s__lA s_.l.length s__lC, .slice A2 (l3 ++ [(k2 : Int)]).length C1, .slice l4A l4.length l4C, .int .i64 b2] rfl rfl rfl rfl rfl Try.sizeOf22 rfl rfl rfl rfl (fun a w hf hs => ?_)
            refine R.nil ?_
            refine X.then_ ?_
            refine wp_seq ?_
            refine R.list ?_
            refine S.val hf hs (v := .pointer (some ⟨s_g, 0, none⟩)) rfl rfl rfl (V.pure rfl) (fun a hf => ?_)
            replace hs := hs.front 2 rfl
            replace hs := hs.front 2 rfl
            replace hs := hs.front 2 rfl
            obtain ⟨F1, hsF, hback, hold, hrest⟩ := Sat.callOwns [hbox s_g 52 [.slice s__lA s_.l.length s__lC, .slice A2 (l3 ++ [(k2 : Int)]).length C1, .slice l4A l4.length l4C, .int .i64 b2], hown 3 A2 C1 (l3 ++ [(k2 : Int)]), hown 3 l4A l4C l4] (σ := []) hs
            refine S.call hf rfl rfl rfl (call_fn (vs := [.pointer (some ⟨s_g, 0, none⟩)]) rfl rfl rfl Try.call33) (ih (⟨s_.l, (l3 ++ [(k2 : Int)]), l4, b2⟩ : R10Search) _ _ s_g s__lA s__lC (viewArgsF hs hold hv_s__l) A2 C1 l4A l4C hsF _ h) (fun v a w' hf hr => ?_)
            obtain ⟨z1, z1_nowA, z1_nowC, z1_bestA, z1_bestC, rfl, h2, hs2⟩ := hr
            replace h := h2; replace hs := hback _ _ hs2; clear h2 hs2 hback hold hrest hsF
            refine R.nil ?_
            refine X.then_ ?_
            refine M.start 14 (Sat w0 F0 [hbox s_g 52 [.slice s__lA s_.l.length s__lC, .slice z1_nowA z1.now.length z1_nowC, .slice z1_bestA z1.best.length z1_bestC, .int .i64 z1.most], hown 3 z1_nowA z1_nowC z1.now, hown 3 z1_bestA z1_bestC z1.best]) mo ?_
            replace hs := hs.drew
            refine M.val hf hs (v := .pointer (some ⟨s_g, 0, none⟩)) (i := 0) rfl rfl rfl rfl (by kernel_rfl) (by kernel_rfl) (by kernel_rfl) (by kernel_rfl) (by kernel_rfl) rfl (V.pure rfl) (fun a hf => ?_)
            refine M.val hf hs (v := .pointer (some ⟨s_g, 0, none⟩)) (i := 1) rfl rfl rfl rfl (by kernel_rfl) (by kernel_rfl) (by kernel_rfl) (by kernel_rfl) (by kernel_rfl) rfl (V.pure rfl) (fun a hf => ?_)
            refine M.val hf hs (v := .pointer (some ⟨s_g, 0, none⟩)) (i := 2) rfl rfl rfl rfl (by kernel_rfl) (by kernel_rfl) (by kernel_rfl) (by kernel_rfl) (by kernel_rfl) rfl (V.pure rfl) (fun a hf => ?_)
            refine M.val hf hs (v := .pointer (some ⟨s_g, 1, none⟩)) (i := 3) rfl rfl rfl rfl (by kernel_rfl) (by kernel_rfl) (by kernel_rfl) (by kernel_rfl) (by kernel_rfl) rfl (V.fieldBox rfl rfl Try.runUnderlying52 rfl Try.sizeOf22 rfl rfl) (fun a hf => ?_)
            refine M.val hf hs (v := .slice z1_nowA z1.now.length z1_nowC) (i := 4) rfl rfl rfl rfl (by kernel_rfl) (by kernel_rfl) (by kernel_rfl) (by kernel_rfl) (by kernel_rfl) rfl (V.loadBox 0 rfl rfl rfl Try.isAgg22 Try.sizeOf22 rfl rfl) (fun a hf => ?_)
            refine M.val hf hs (v := .pointer (some ⟨s_g, 0, none⟩)) (i := 5) rfl rfl rfl rfl (by kernel_rfl) (by kernel_rfl) (by kernel_rfl) (by kernel_rfl) (by kernel_rfl) rfl (V.pure rfl) (fun a hf => ?_)
            refine M.val hf hs (v := .pointer (some ⟨s_g, 0, none⟩)) (i := 6) rfl rfl rfl rfl (by kernel_rfl) (by kernel_rfl) (by kernel_rfl) (by kernel_rfl) (by kernel_rfl) rfl (V.pure rfl) (fun a hf => ?_)
            refine M.val hf hs (v := .pointer (some ⟨s_g, 1, none⟩)) (i := 7) rfl rfl rfl rfl (by kernel_rfl) (by kernel_rfl) (by kernel_rfl) (by kernel_rfl) (by kernel_rfl) rfl (V.fieldBox rfl rfl Try.runUnderlying52 rfl Try.sizeOf22 rfl rfl) (fun a hf => ?_)
            refine M.val hf hs (v := .slice z1_nowA z1.now.length z1_nowC) (i := 8) rfl rfl rfl rfl (by kernel_rfl) (by kernel_rfl) (by kernel_rfl) (by kernel_rfl) (by kernel_rfl) rfl (V.loadBox 0 rfl rfl rfl Try.isAgg22 Try.sizeOf22 rfl rfl) (fun a hf => ?_)
            refine M.val hf hs (v := .int .i64 (z1.now.length : Int)) (i := 9) rfl rfl rfl rfl (by kernel_rfl) (by kernel_rfl) (by kernel_rfl) (by kernel_rfl) (by kernel_rfl) rfl (V.len rfl rfl Try.runUnderlying22) (fun a hf => ?_)
            refine M.val hf hs (v := .int .i64 (w64 ((z1.now.length : Int) - 1))) (i := 10) rfl rfl rfl rfl (by kernel_rfl) (by kernel_rfl) (by kernel_rfl) (by kernel_rfl) (by kernel_rfl) rfl (V.pure rfl) (fun a hf => ?_)
            obtain ⟨hp1, h⟩ := h
            refine M.val hf hs (v := .slice z1_nowA (z1.now.take (w64 ((z1.now.length : Int) - 1)).toNat).length z1_nowC) (i := 11) rfl rfl rfl rfl (by kernel_rfl) (by kernel_rfl) (by kernel_rfl) (by kernel_rfl) (by kernel_rfl) rfl (V.slicePre (xs := z1.now) rfl rfl rfl rfl Try.runUnderlying22 Try.sizeOf3 rfl hp1 (hs.ownView 1 rfl).cap) (fun a hf => ?_)
            refine M.one (i := 12) rfl (by kernel_rfl) ?_
            refine S.val hf hs (v := .pointer (some ⟨s_g, 0, none⟩)) rfl rfl rfl (V.pure rfl) (fun a hf => ?_)
            refine R.nil ?_
            refine X.then_ ?_
            refine ⟨hs, ?_⟩
            refine M.val hf hs (v := .pointer (some ⟨s_g, 1, none⟩)) (i := 13) rfl rfl rfl rfl (by kernel_rfl) (by kernel_rfl) (by kernel_rfl) (by kernel_rfl) (by kernel_rfl) rfl (V.fieldBox rfl rfl Try.runUnderlying52 rfl Try.sizeOf22 rfl rfl) (fun a hf => ?_)
            refine M.last (i := 14) rfl (by kernel_rfl) (by kernel_rfl) ?_
            refine S.storeBox 0 hf hs rfl rfl [.slice z1_nowA (z1.now.take (w64 ((z1.now.length : Int) - 1)).toNat).length z1_nowC] [.slice s__lA s_.l.length s__lC, .slice z1_nowA (z1.now.take (w64 ((z1.now.length : Int) - 1)).toNat).length z1_nowC, .slice z1_bestA z1.best.length z1_bestC, .int .i64 z1.most] rfl rfl rfl rfl rfl Try.sizeOf22 rfl rfl rfl rfl (fun a w hf hs => ?_)
            refine R.nil ?_
            refine X.then_ ?_
            refine M.done (by kernel_rfl) ?_
            refine X.blk ?_
            refine X.then_ ?_
            refine R.list ?_
            refine S.val hf hs (v := .int .i64 ((k2 + 1 : Nat) : Int)) rfl rfl rfl (V.incr rfl rfl rfl hltk2 hlenk2) (fun a hf => ?_)
            refine S.val hf hs (v := .int .i64 ((k2 + 1 : Nat) : Int)) rfl rfl rfl (V.pure rfl) (fun a hf => ?_)
            refine R.nil ?_
            refine X.then_ ?_
            replace hs := hs.shorten 1 rfl ((w64 ((z1.now.length : Int) - 1)).toNat) (by have := hp1; omega)
            exact ⟨xk2, llk2, rfl, k2 + 1, (z1.now.take (w64 ((z1.now.length : Int) - 1)).toNat), z1_nowA, z1_nowC, z1.best, z1_bestA, z1_bestC, z1.most, range_drop hlk2, range_len hkk2, (by rw [hnext1] at h; exact h), (((hf.nil.cons (hf.get 61 _ rfl)).cons (hf.get 0 _ rfl)).cons (hf.get 62 _ rfl)), hs⟩
  · skip
    refine R.list ?_
    refine S.val hf hs (v := .pointer (some ⟨s_g, 0, none⟩)) rfl rfl rfl (V.pure rfl) (fun a hf => ?_)
    refine S.val hf hs (v := .pointer (some ⟨s_g, 0, none⟩)) rfl rfl rfl (V.pure rfl) (fun a hf => ?_)
    refine S.val hf hs (v := .pointer (some ⟨s_g, 3, none⟩)) rfl rfl rfl (V.fieldBox rfl rfl Try.runUnderlying52 rfl Try.sizeOf3 rfl rfl) (fun a hf => ?_)
    refine S.val hf hs (v := .int .i64 s_.most) rfl rfl rfl (V.loadBox 0 rfl rfl rfl Try.isAgg3 Try.sizeOf3 rfl rfl) (fun a hf => ?_)
    refine S.val hf hs (v := .bool (decide (s_.most ≥ 0))) rfl rfl rfl (V.pure rfl) (fun a hf => ?_)
    refine S.split hf hs (b := decide (s_.most ≥ 0)) rfl rfl rfl (V.pure rfl) (fun hc a hf => ?_) (fun hc a hf => ?_)
    · replace h := h.1 hc
      refine S.val hf hs (v := .int .i64 y1) rfl rfl rfl (V.pure rfl) (fun a hf => ?_)
      refine S.val hf hs (v := .pointer (some ⟨s_g, 0, none⟩)) rfl rfl rfl (V.pure rfl) (fun a hf => ?_)
      refine S.val hf hs (v := .pointer (some ⟨s_g, 0, none⟩)) rfl rfl rfl (V.pure rfl) (fun a hf => ?_)
      refine S.val hf hs (v := .pointer (some ⟨s_g, 3, none⟩)) rfl rfl rfl (V.fieldBox rfl rfl Try.runUnderlying52 rfl Try.sizeOf3 rfl rfl) (fun a hf => ?_)
      refine S.val hf hs (v := .int .i64 s_.most) rfl rfl rfl (V.loadBox 0 rfl rfl rfl Try.isAgg3 Try.sizeOf3 rfl rfl) (fun a hf => ?_)
      refine S.val hf hs (v := .bool (decide (y1 ≥ s_.most))) rfl rfl rfl (V.pure rfl) (fun a hf => ?_)
      refine S.val hf hs (v := .bool (decide (y1 ≥ s_.most))) rfl rfl rfl (V.pure rfl) (fun a hf => ?_)
      refine R.nil ?_
      refine X.then_ ?_
      exact ⟨(decide (y1 ≥ s_.most)), h, ((hf.nil.cons (hf.get 25 _ rfl)).cons (hf.get 0 _ rfl)), hs⟩
    · replace h := h.2 hc
      refine S.skip hf rfl rfl rfl (fun a hf => ?_)
      refine S.skip hf rfl rfl rfl (fun a hf => ?_)
      refine S.skip hf rfl rfl rfl (fun a hf => ?_)
      refine S.skip hf rfl rfl rfl (fun a hf => ?_)
      refine S.skip hf rfl rfl rfl (fun a hf => ?_)
      refine S.skip hf rfl rfl rfl (fun a hf => ?_)
      refine S.val hf hs (v := .bool false) rfl rfl rfl (V.pure rfl) (fun a hf => ?_)
      refine R.nil ?_
      refine X.then_ ?_
      exact ⟨false, h, ((hf.nil.cons (hf.get 25 _ rfl)).cons (hf.get 0 _ rfl)), hs⟩
theorem R_ref10_goOn (s_ : R10Search) (w0 : World) (F0 : Nat → Prop) (s_g : Nat) (s__lA : Option Addr) (s__lC : Nat) (hv_s__l : View w0 (old w0 F0) s__lA s__lC s_.l) (s__nowA : Option Addr) (s__nowC : Nat) (s__bestA : Option Addr) (s__bestC : Nat) (hs0 : Sat w0 F0 [hbox s_g 52 [.slice s__lA s_.l.length s__lC, .slice s__nowA s_.now.length s__nowC, .slice s__bestA s_.best.length s__bestC, .int .i64 s_.most], hown 3 s__nowA s__nowC s_.now, hown 3 s__bestA s__bestC s_.best] w0) (Q : R10Search → Prop) (h : M_ref10_goOn s_ Q) :
    Ret Try.prog 33 #[.pointer (some ⟨s_g, 0, none⟩)] w0 fun v w' => ∃ (s_1 : R10Search) (s_1_nowA : Option Addr) (s_1_nowC : Nat) (s_1_bestA : Option Addr) (s_1_bestC : Nat), v = .tuple #[] ∧ Q s_1 ∧ Sat w0 F0 [hbox s_g 52 [.slice s__lA s_.l.length s__lC, .slice s_1_nowA s_1.now.length s_1_nowC, .slice s_1_bestA s_1.best.length s_1_bestC, .int .i64 s_1.most], hown 3 s_1_nowA s_1_nowC s_1.now, hown 3 s_1_bestA s_1_bestC s_1.best] w' := by
  obtain ⟨fuel, h⟩ := h
  exact RN_ref10_goOn fuel s_ w0 F0 s_g s__lA s__lC hv_s__l s__nowA s__nowC s__bestA s__bestC hs0 Q h

set_option linter.unusedVariables false
def M_ref10_Best (l : (List Batch)) (Q : (List Int) → Int → Int → Prop) : Prop :=
  M_ref10_checkBatches l 8 fun y1 => cnd (y1 != 0) (Q ([] : List Int) 0 y1) (M_ref10_goOn (⟨l, ([] : List Int), ([] : List Int), (-1)⟩ : R10Search) fun z1 => Q z1.best z1.most 0)
set_option maxHeartbeats 1000000 in
theorem R_ref10_Best (l : (List Batch)) (w0 : World) (lA : Option Addr) (lC : Nat) (hv_l : View w0 (old w0 none_) lA lC l) (Q : (List Int) → Int → Int → Prop) (h : M_ref10_Best l Q) :
    Ret Try.prog 15 #[.slice lA l.length lC] w0 fun v w' => ∃ (r0 : (List Int)) (r0A : Option Addr) (r0C : Nat) (r1 : Int) (r2 : Int), v = .tuple #[.slice r0A r0.length r0C, .int .i64 r1, .int .i64 r2] ∧ Q r0 r1 r2 ∧ Sat w0 none_ [hown 3 r0A r0C r0] w' := by
  refine fn_enter Try.func15 rfl Try.ntmps15 rfl (fs := [(0, .slice lA l.length lC)]) rfl (fun a hf => ?_)
  have hs := Sat.start w0 none_
  unfold M_ref10_Best at h
  refine wp_seq ?_
  refine R.list ?_
  refine S.val hf hs (v := .slice none 0 0) rfl rfl rfl (V.pure rfl) (fun a hf => ?_)
  refine S.val hf hs (v := .int .i64 0) rfl rfl rfl (V.pure rfl) (fun a hf => ?_)
  refine S.val hf hs (v := .int .i64 0) rfl rfl rfl (V.pure rfl) (fun a hf => ?_)
  refine R.nil ?_
  refine X.then_ ?_
  refine wp_seq ?_
  refine wp_seq ?_
  refine R.list ?_
  refine S.val hf hs (v := .slice lA l.length lC) rfl rfl rfl (V.pure rfl) (fun a hf => ?_)
  refine S.call hf rfl rfl rfl (call_fn (vs := [.slice lA l.length lC, .int .i64 8]) rfl rfl rfl Try.call27) (R_ref10_checkBatches l 8 _ lA lC ((Ag.args _ _ _).view hv_l hs) _ h) (fun v a w' hf hr => ?_)
  obtain ⟨y1, rfl, h2, hs2⟩ := hr
  replace h := h2; replace hs := hs.call hs2; clear h2 hs2
  refine S.val hf hs (v := .int .i64 y1) rfl rfl rfl (V.pure rfl) (fun a hf => ?_)
  refine R.nil ?_
  refine X.then_ ?_
  refine wp_seq ?_
  refine R.list ?_
  refine S.val hf hs (v := .int .i64 y1) rfl rfl rfl (V.pure rfl) (fun a hf => ?_)
  refine S.val hf hs (v := .bool (y1 != 0)) rfl rfl rfl (V.pure rfl) (fun a hf => ?_)
  refine R.nil ?_
  refine X.then_ ?_
  refine C.cond hf (b := y1 != 0) rfl (fun hc => ?_) (fun hc => ?_)
  · replace h := h.1 hc
    refine wp_seq ?_
    refine R.list ?_
    refine S.val hf hs (v := .int .i64 y1) rfl rfl rfl (V.pure rfl) (fun a hf => ?_)
    refine S.val hf hs (v := .slice none 0 0) rfl rfl rfl (V.pure rfl) (fun a hf => ?_)
    refine S.val hf hs (v := .int .i64 0) rfl rfl rfl (V.pure rfl) (fun a hf => ?_)
    refine S.val hf hs (v := .int .i64 y1) rfl rfl rfl (V.pure rfl) (fun a hf => ?_)
    refine R.nil ?_
    refine X.then_ ?_
    refine wp_ret ?_
    refine X.then_ret ?_
    replace hs := hs.nilOwn (α := Int) 3
    replace hs := hs.take 1
    exact L.ret hf (run_results3 Try.results15 (ResIs.tmp hf rfl) (ResIs.tmp hf rfl) (ResIs.tmp hf rfl)) ⟨([] : List Int), none, 0, 0, y1, rfl, h, hs⟩
  · replace h := h.2 hc
    refine wp_skip ?_
    refine X.then_ ?_
    refine wp_seq ?_
    refine R.list ?_
    refine S.val hf hs (v := .slice lA l.length lC) rfl rfl rfl (V.pure rfl) (fun a hf => ?_)
    refine S.val hf hs (v := .agg #[.slice lA l.length lC, .slice none 0 0, .slice none 0 0, .int .i64 (-1)]) rfl rfl rfl (V.build (places := #[(0, 1), (1, 1), (2, 1), (3, 1)]) rfl Try.zeroValue52 Try.runUnderlying52 (by intro w; simp [Try.sizeOf22, Try.sizeOf3, Try.sizeOf32]) rfl rfl) (fun a hf => ?_)
    refine S.box hf hs rfl rfl rfl [.slice lA l.length lC, .slice none 0 0, .slice none 0 0, .int .i64 (-1)] rfl rfl rfl (fun g1 a w hf hs => ?_)
    refine S.val hf hs (v := .pointer (some ⟨g1, 0, none⟩)) rfl rfl rfl (V.pure rfl) (fun a hf => ?_)
    refine R.nil ?_
    refine X.then_ ?_
    refine wp_seq ?_
    refine R.list ?_
    refine S.val hf hs (v := .pointer (some ⟨g1, 0, none⟩)) rfl rfl rfl (V.pure rfl) (fun a hf => ?_)
    replace hs := hs.nilOwn (α := Int) 3
    replace hs := hs.nilOwn (α := Int) 3
    replace hs := hs.front 1 rfl
    replace hs := hs.front 1 rfl
    replace hs := hs.front 2 rfl
    obtain ⟨F1, hsF, hback, hold, hrest⟩ := Sat.callOwns [hbox g1 52 [.slice lA l.length lC, .slice none ([] : List Int).length 0, .slice none ([] : List Int).length 0, .int .i64 (-1)], hown 3 none 0 ([] : List Int), hown 3 none 0 ([] : List Int)] (σ := []) hs
    refine S.call hf rfl rfl rfl (call_fn (vs := [.pointer (some ⟨g1, 0, none⟩)]) rfl rfl rfl Try.call33) (R_ref10_goOn (⟨l, ([] : List Int), ([] : List Int), (-1)⟩ : R10Search) _ _ g1 lA lC (viewArgsF hs hold hv_l) none 0 none 0 hsF _ h) (fun v a w' hf hr => ?_)
    obtain ⟨z1, z1_nowA, z1_nowC, z1_bestA, z1_bestC, rfl, h2, hs2⟩ := hr
    replace h := h2; replace hs := hback _ _ hs2; clear h2 hs2 hback hold hrest hsF
    refine R.nil ?_
    refine X.then_ ?_
    refine wp_seq ?_
    refine R.draw mo (by kernel_rfl) hs ?_
    refine D.val hf (v := .pointer (some ⟨g1, 0, none⟩)) rfl rfl rfl (V.pure rfl) (fun a hf => ?_)
    refine D.val hf (v := .pointer (some ⟨g1, 0, none⟩)) rfl rfl rfl (V.pure rfl) (fun a hf => ?_)
    refine D.val hf (v := .pointer (some ⟨g1, 2, none⟩)) rfl rfl rfl (V.fieldBox rfl rfl Try.runUnderlying52 rfl Try.sizeOf22 rfl rfl) (fun a hf => ?_)
    refine D.val hf (v := .slice z1_bestA z1.best.length z1_bestC) rfl rfl rfl (V.loadBox 0 rfl rfl rfl Try.isAgg22 Try.sizeOf22 rfl rfl) (fun a hf => ?_)
    refine D.val hf (v := .pointer (some ⟨g1, 0, none⟩)) rfl rfl rfl (V.pure rfl) (fun a hf => ?_)
    refine D.val hf (v := .pointer (some ⟨g1, 0, none⟩)) rfl rfl rfl (V.pure rfl) (fun a hf => ?_)
    refine D.val hf (v := .pointer (some ⟨g1, 3, none⟩)) rfl rfl rfl (V.fieldBox rfl rfl Try.runUnderlying52 rfl Try.sizeOf3 rfl rfl) (fun a hf => ?_)
    refine D.val hf (v := .int .i64 z1.most) rfl rfl rfl (V.loadBox 0 rfl rfl rfl Try.isAgg3 Try.sizeOf3 rfl rfl) (fun a hf => ?_)
    refine D.val hf (v := .slice z1_bestA z1.best.length z1_bestC) rfl rfl rfl (V.pure rfl) (fun a hf => ?_)
    refine D.val hf (v := .int .i64 z1.most) rfl rfl rfl (V.pure rfl) (fun a hf => ?_)
    refine D.val hf (v := .int .i64 0) rfl rfl rfl (V.pure rfl) (fun a hf => ?_)
    refine D.done (fun w hs => ?_)
    refine X.then_ ?_
    refine wp_ret ?_
    replace hs := hs.front 2 rfl
    replace hs := hs.take 1
    exact L.ret hf (run_results3 Try.results15 (ResIs.tmp hf rfl) (ResIs.tmp hf rfl) (ResIs.tmp hf rfl)) ⟨z1.best, z1_bestA, z1_bestC, z1.most, 0, rfl, h, hs⟩

set_option linter.unusedVariables false
def M_law_Best_k1 (l : (List Batch)) (Q : Bool → Prop) (c1 : Bool) : Prop :=
  cnd c1 (Q false) (M_mount_Best l fun y5 y6 y7 => M_ref10_Best l fun y8 y9 y10 => cnd (y7 == y10) (cnd (y6 == y9) (M_equal_int y5 y8 fun y11 => cnd y11 (M_awake  fun y12 => Q y12) (Q false)) (Q false)) (Q false))
def M_law_Best (l : (List Batch)) (order : (List Int)) (Q : Bool → Prop) : Prop :=
  M_mount_Makespan l order fun y1 y2 => M_ref10_Makespan l order fun y3 y4 => cnd (y2 != y4) (M_law_Best_k1 l Q true) (M_law_Best_k1 l Q (y1 != y3))
set_option maxHeartbeats 1000000 in
theorem R_law_Best (l : (List Batch)) (order : (List Int)) (w0 : World) (lA : Option Addr) (lC : Nat) (hv_l : View w0 (old w0 none_) lA lC l) (orderA : Option Addr) (orderC : Nat) (hv_order : View w0 (old w0 none_) orderA orderC order) (Q : Bool → Prop) (h : M_law_Best l order Q) :
    Ret Try.prog 5 #[.slice lA l.length lC, .slice orderA order.length orderC] w0 fun v w' => ∃ (r0 : Bool), v = .bool r0 ∧ Q r0 ∧ Sat w0 none_ [] w' := by
  refine fn_enter Try.func5 rfl Try.ntmps5 rfl (fs := [(0, .slice lA l.length lC), (1, .slice orderA order.length orderC)]) rfl (fun a hf => ?_)
  have hs := Sat.start w0 none_
  unfold M_law_Best at h
  refine wp_seq ?_
  refine R.list ?_
  refine S.val hf hs (v := .bool false) rfl rfl rfl (V.pure rfl) (fun a hf => ?_)
  refine R.nil ?_
  refine X.then_ ?_
  refine wp_seq ?_
  refine R.list ?_
  refine S.val hf hs (v := .slice lA l.length lC) rfl rfl rfl (V.pure rfl) (fun a hf => ?_)
  refine S.val hf hs (v := .slice orderA order.length orderC) rfl rfl rfl (V.pure rfl) (fun a hf => ?_)
  refine S.call hf rfl rfl rfl (call_fn (vs := [.slice lA l.length lC, .slice orderA order.length orderC]) rfl rfl rfl Try.call12) (R_mount_Makespan l order _ lA lC ((Ag.args _ _ _).view hv_l hs) orderA orderC ((Ag.args _ _ _).view hv_order hs) _ h) (fun v a w' hf hr => ?_)
  obtain ⟨y1, y2, rfl, h2, hs2⟩ := hr
  replace h := h2; replace hs := hs.call hs2; clear h2 hs2
  refine S.val hf hs (v := .tuple #[.int .i64 y1, .int .i64 y2]) rfl rfl rfl (V.pure rfl) (fun a hf => ?_)
  refine S.val hf hs (v := .int .i64 y1) rfl rfl rfl (V.pure rfl) (fun a hf => ?_)
  refine S.val hf hs (v := .int .i64 y2) rfl rfl rfl (V.pure rfl) (fun a hf => ?_)
  refine S.val hf hs (v := .int .i64 y1) rfl rfl rfl (V.pure rfl) (fun a hf => ?_)
  refine S.val hf hs (v := .int .i64 y2) rfl rfl rfl (V.pure rfl) (fun a hf => ?_)
  refine R.nil ?_
  refine X.then_ ?_
  refine wp_seq ?_
  refine R.list ?_
  refine S.val hf hs (v := .slice lA l.length lC) rfl rfl rfl (V.pure rfl) (fun a hf => ?_)
  refine S.val hf hs (v := .slice orderA order.length orderC) rfl rfl rfl (V.pure rfl) (fun a hf => ?_)
  refine S.call hf rfl rfl rfl (call_fn (vs := [.slice lA l.length lC, .slice orderA order.length orderC]) rfl rfl rfl Try.call13) (R_ref10_Makespan l order _ lA lC ((Ag.args _ _ _).view hv_l hs) orderA orderC ((Ag.args _ _ _).view hv_order hs) _ h) (fun v a w' hf hr => ?_)
  obtain ⟨y3, y4, rfl, h2, hs2⟩ := hr
  replace h := h2; replace hs := hs.call hs2; clear h2 hs2
  refine S.val hf hs (v := .tuple #[.int .i64 y3, .int .i64 y4]) rfl rfl rfl (V.pure rfl) (fun a hf => ?_)
  refine S.val hf hs (v := .int .i64 y3) rfl rfl rfl (V.pure rfl) (fun a hf => ?_)
  refine S.val hf hs (v := .int .i64 y4) rfl rfl rfl (V.pure rfl) (fun a hf => ?_)
  refine S.val hf hs (v := .int .i64 y3) rfl rfl rfl (V.pure rfl) (fun a hf => ?_)
  refine S.val hf hs (v := .int .i64 y4) rfl rfl rfl (V.pure rfl) (fun a hf => ?_)
  refine R.nil ?_
  refine X.then_ ?_
  refine wp_seq ?_
  refine wp_seq ?_
  refine C.cut (J := fun a w => ∃ (c1 : Bool), M_law_Best_k1 l Q c1 ∧ FrOk 59 [(0, .slice lA l.length lC), (30, .bool c1)] a ∧ Sat w0 none_ [] w) ?_ ?_
  · rintro a w ⟨c1, h, hf, hs⟩
    unfold M_law_Best_k1 at h
    refine C.cond hf (b := c1) rfl (fun hc => ?_) (fun hc => ?_)
    · replace h := h.1 hc
      refine wp_seq ?_
      refine R.list ?_
      refine S.val hf hs (v := .bool false) rfl rfl rfl (V.pure rfl) (fun a hf => ?_)
      refine R.nil ?_
      refine X.then_ ?_
      refine wp_ret ?_
      refine X.then_ret ?_
      exact L.ret hf (run_results1 Try.results5 (ResIs.tmp hf rfl)) ⟨false, rfl, h, hs.nil⟩
    · replace h := h.2 hc
      refine wp_skip ?_
      refine X.then_ ?_
      refine wp_seq ?_
      refine R.list ?_
      refine S.val hf hs (v := .slice lA l.length lC) rfl rfl rfl (V.pure rfl) (fun a hf => ?_)
      refine S.call hf rfl rfl rfl (call_fn (vs := [.slice lA l.length lC]) rfl rfl rfl Try.call14) (R_mount_Best l _ lA lC ((Ag.args _ _ _).view hv_l hs) _ h) (fun v a w' hf hr => ?_)
      obtain ⟨y5, y5A, y5C, y6, y7, rfl, h2, hs2⟩ := hr
      replace h := h2; replace hs := hs.call hs2; clear h2 hs2
      refine S.val hf hs (v := .tuple #[.slice y5A y5.length y5C, .int .i64 y6, .int .i64 y7]) rfl rfl rfl (V.pure rfl) (fun a hf => ?_)
      refine S.val hf hs (v := .slice y5A y5.length y5C) rfl rfl rfl (V.pure rfl) (fun a hf => ?_)
      refine S.val hf hs (v := .int .i64 y6) rfl rfl rfl (V.pure rfl) (fun a hf => ?_)
      refine S.val hf hs (v := .int .i64 y7) rfl rfl rfl (V.pure rfl) (fun a hf => ?_)
      refine S.val hf hs (v := .slice y5A y5.length y5C) rfl rfl rfl (V.pure rfl) (fun a hf => ?_)
      refine S.val hf hs (v := .int .i64 y6) rfl rfl rfl (V.pure rfl) (fun a hf => ?_)
      refine S.val hf hs (v := .int .i64 y7) rfl rfl rfl (V.pure rfl) (fun a hf => ?_)
      refine R.nil ?_
      refine X.then_ ?_
      refine wp_seq ?_
      refine R.list ?_
      refine S.val hf hs (v := .slice lA l.length lC) rfl rfl rfl (V.pure rfl) (fun a hf => ?_)
      refine S.call hf rfl rfl rfl (call_fn (vs := [.slice lA l.length lC]) rfl rfl rfl Try.call15) (R_ref10_Best l _ lA lC ((Ag.args _ _ _).view hv_l hs) _ h) (fun v a w' hf hr => ?_)
      obtain ⟨y8, y8A, y8C, y9, y10, rfl, h2, hs2⟩ := hr
      replace h := h2; replace hs := hs.call hs2; clear h2 hs2
      refine S.val hf hs (v := .tuple #[.slice y8A y8.length y8C, .int .i64 y9, .int .i64 y10]) rfl rfl rfl (V.pure rfl) (fun a hf => ?_)
      refine S.val hf hs (v := .slice y8A y8.length y8C) rfl rfl rfl (V.pure rfl) (fun a hf => ?_)
      refine S.val hf hs (v := .int .i64 y9) rfl rfl rfl (V.pure rfl) (fun a hf => ?_)
      refine S.val hf hs (v := .int .i64 y10) rfl rfl rfl (V.pure rfl) (fun a hf => ?_)
      refine S.val hf hs (v := .slice y8A y8.length y8C) rfl rfl rfl (V.pure rfl) (fun a hf => ?_)
      refine S.val hf hs (v := .int .i64 y9) rfl rfl rfl (V.pure rfl) (fun a hf => ?_)
      refine S.val hf hs (v := .int .i64 y10) rfl rfl rfl (V.pure rfl) (fun a hf => ?_)
      refine R.nil ?_
      refine X.then_ ?_
      refine wp_seq ?_
      refine R.list ?_
      refine S.val hf hs (v := .int .i64 y7) rfl rfl rfl (V.pure rfl) (fun a hf => ?_)
      refine S.val hf hs (v := .int .i64 y10) rfl rfl rfl (V.pure rfl) (fun a hf => ?_)
      refine S.val hf hs (v := .bool (y7 == y10)) rfl rfl rfl (V.pure rfl) (fun a hf => ?_)
      refine S.split hf hs (b := y7 == y10) rfl rfl rfl (V.pure rfl) (fun hc a hf => ?_) (fun hc a hf => ?_)
      · replace h := h.1 hc
        refine S.val hf hs (v := .int .i64 y6) rfl rfl rfl (V.pure rfl) (fun a hf => ?_)
        refine S.val hf hs (v := .int .i64 y9) rfl rfl rfl (V.pure rfl) (fun a hf => ?_)
        refine S.val hf hs (v := .bool (y6 == y9)) rfl rfl rfl (V.pure rfl) (fun a hf => ?_)
        refine S.val hf hs (v := .bool (y6 == y9)) rfl rfl rfl (V.pure rfl) (fun a hf => ?_)
        refine S.split hf hs (b := y6 == y9) rfl rfl rfl (V.pure rfl) (fun hc a hf => ?_) (fun hc a hf => ?_)
        · replace h := h.1 hc
          refine S.val hf hs (v := .slice y5A y5.length y5C) rfl rfl rfl (V.pure rfl) (fun a hf => ?_)
          refine S.val hf hs (v := .slice y8A y8.length y8C) rfl rfl rfl (V.pure rfl) (fun a hf => ?_)
          refine S.call hf rfl rfl rfl (call_fn (vs := [.slice y5A y5.length y5C, .slice y8A y8.length y8C]) rfl rfl rfl Try.call9) (R_equal_int y5 y8 _ y5A y5C (hs.ownView 1 rfl) y8A y8C (hs.ownView 0 rfl) _ h) (fun v a w' hf hr => ?_)
          obtain ⟨y11, rfl, h2, hs2⟩ := hr
          replace h := h2; replace hs := hs.call hs2; clear h2 hs2
          refine S.val hf hs (v := .bool y11) rfl rfl rfl (V.pure rfl) (fun a hf => ?_)
          refine S.split hf hs (b := y11) rfl rfl rfl (V.pure rfl) (fun hc a hf => ?_) (fun hc a hf => ?_)
          · replace h := h.1 hc
            refine S.call hf rfl rfl rfl (call_fn (vs := []) rfl rfl rfl Try.call10) (R_awake  _  _ h) (fun v a w' hf hr => ?_)
            obtain ⟨y12, rfl, h2, hs2⟩ := hr
            replace h := h2; replace hs := hs.call hs2; clear h2 hs2
            refine S.val hf hs (v := .bool y12) rfl rfl rfl (V.pure rfl) (fun a hf => ?_)
            refine S.val hf hs (v := .bool y12) rfl rfl rfl (V.pure rfl) (fun a hf => ?_)
            refine R.nil ?_
            refine X.then_ ?_
            refine wp_ret ?_
            exact L.ret hf (run_results1 Try.results5 (ResIs.tmp hf rfl)) ⟨y12, rfl, h, hs.nil⟩
          · replace h := h.2 hc
            refine S.skip hf rfl rfl rfl (fun a hf => ?_)
            refine S.val hf hs (v := .bool false) rfl rfl rfl (V.pure rfl) (fun a hf => ?_)
            refine S.val hf hs (v := .bool false) rfl rfl rfl (V.pure rfl) (fun a hf => ?_)
            refine R.nil ?_
            refine X.then_ ?_
            refine wp_ret ?_
            exact L.ret hf (run_results1 Try.results5 (ResIs.tmp hf rfl)) ⟨false, rfl, h, hs.nil⟩
        · replace h := h.2 hc
          refine S.skip hf rfl rfl rfl (fun a hf => ?_)
          refine S.skip hf rfl rfl rfl (fun a hf => ?_)
          refine S.skip hf rfl rfl rfl (fun a hf => ?_)
          refine S.val hf hs (v := .bool false) rfl rfl rfl (V.pure rfl) (fun a hf => ?_)
          refine S.val hf hs (v := .bool false) rfl rfl rfl (V.pure rfl) (fun a hf => ?_)
          refine S.skip hf rfl rfl rfl (fun a hf => ?_)
          refine S.val hf hs (v := .bool false) rfl rfl rfl (V.pure rfl) (fun a hf => ?_)
          refine S.val hf hs (v := .bool false) rfl rfl rfl (V.pure rfl) (fun a hf => ?_)
          refine R.nil ?_
          refine X.then_ ?_
          refine wp_ret ?_
          exact L.ret hf (run_results1 Try.results5 (ResIs.tmp hf rfl)) ⟨false, rfl, h, hs.nil⟩
      · replace h := h.2 hc
        refine S.skip hf rfl rfl rfl (fun a hf => ?_)
        refine S.skip hf rfl rfl rfl (fun a hf => ?_)
        refine S.skip hf rfl rfl rfl (fun a hf => ?_)
        refine S.val hf hs (v := .bool false) rfl rfl rfl (V.pure rfl) (fun a hf => ?_)
        refine S.val hf hs (v := .bool false) rfl rfl rfl (V.pure rfl) (fun a hf => ?_)
        refine S.skip hf rfl rfl rfl (fun a hf => ?_)
        refine S.skip hf rfl rfl rfl (fun a hf => ?_)
        refine S.skip hf rfl rfl rfl (fun a hf => ?_)
        refine S.val hf hs (v := .bool false) rfl rfl rfl (V.pure rfl) (fun a hf => ?_)
        refine S.val hf hs (v := .bool false) rfl rfl rfl (V.pure rfl) (fun a hf => ?_)
        refine S.skip hf rfl rfl rfl (fun a hf => ?_)
        refine S.val hf hs (v := .bool false) rfl rfl rfl (V.pure rfl) (fun a hf => ?_)
        refine S.val hf hs (v := .bool false) rfl rfl rfl (V.pure rfl) (fun a hf => ?_)
        refine R.nil ?_
        refine X.then_ ?_
        refine wp_ret ?_
        exact L.ret hf (run_results1 Try.results5 (ResIs.tmp hf rfl)) ⟨false, rfl, h, hs.nil⟩
  · skip
    refine R.list ?_
    refine S.val hf hs (v := .int .i64 y2) rfl rfl rfl (V.pure rfl) (fun a hf => ?_)
    refine S.val hf hs (v := .int .i64 y4) rfl rfl rfl (V.pure rfl) (fun a hf => ?_)
    refine S.val hf hs (v := .bool (y2 != y4)) rfl rfl rfl (V.pure rfl) (fun a hf => ?_)
    refine S.split hf hs (b := y2 != y4) rfl rfl rfl (V.pure rfl) (fun hc a hf => ?_) (fun hc a hf => ?_)
    · replace h := h.1 hc
      refine S.skip hf rfl rfl rfl (fun a hf => ?_)
      refine S.skip hf rfl rfl rfl (fun a hf => ?_)
      refine S.skip hf rfl rfl rfl (fun a hf => ?_)
      refine S.val hf hs (v := .bool true) rfl rfl rfl (V.pure rfl) (fun a hf => ?_)
      refine R.nil ?_
      refine X.then_ ?_
      exact ⟨true, h, ((hf.nil.cons (hf.get 30 _ rfl)).cons (hf.get 0 _ rfl)), hs⟩
    · replace h := h.2 hc
      refine S.val hf hs (v := .int .i64 y1) rfl rfl rfl (V.pure rfl) (fun a hf => ?_)
      refine S.val hf hs (v := .int .i64 y3) rfl rfl rfl (V.pure rfl) (fun a hf => ?_)
      refine S.val hf hs (v := .bool (y1 != y3)) rfl rfl rfl (V.pure rfl) (fun a hf => ?_)
      refine S.val hf hs (v := .bool (y1 != y3)) rfl rfl rfl (V.pure rfl) (fun a hf => ?_)
      refine R.nil ?_
      refine X.then_ ?_
      exact ⟨(y1 != y3), h, ((hf.nil.cons (hf.get 30 _ rfl)).cons (hf.get 0 _ rfl)), hs⟩

end Go.Proofs.Ytcmlcgjjkccaeaa

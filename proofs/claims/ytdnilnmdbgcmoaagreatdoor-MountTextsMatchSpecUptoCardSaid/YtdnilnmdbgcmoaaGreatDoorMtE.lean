/- Reading bodies and places: the walks. -/
import Derived.Test.YtdnilnmdbgcmoaaGreatDoorMtB
namespace Go.Proofs.YtdnilnmdbgcmoaaGreatDoor
open Go Go.RowKit Go.Proofs Go.Shelf Go.Lib
set_option linter.unusedVariables false

set_option linter.unusedVariables false
def M_stringslite_HasPrefix (s_ : Str) (prefix_ : Str) (Q : Bool → Prop) : Prop :=
  cnd (decide ((s_.length : Int) ≥ (prefix_.length : Int))) (must (0 ≤ (0 : Int) ∧ (0 : Int) ≤ (prefix_.length : Int) ∧ (prefix_.length : Int) ≤ (s_.length : Int)) (Q ((seg s_ (0 : Int) (prefix_.length : Int)) == prefix_))) (Q false)
set_option maxHeartbeats 1000000 in
theorem R_stringslite_HasPrefix (s_ : Str) (prefix_ : Str) (w0 : World)  (Q : Bool → Prop) (h : M_stringslite_HasPrefix s_ prefix_ Q) :
    Ret Tryz.prog 235 #[.string (ba s_), .string (ba prefix_)] w0 fun v w' => ∃ (r0 : Bool), v = .bool r0 ∧ Q r0 ∧ Sat w0 none_ [] w' := by
  refine fn_enter Tryz.func235 rfl Tryz.ntmps235 rfl (fs := [(0, .string (ba s_)), (1, .string (ba prefix_))]) rfl (fun a hf => ?_)
  have hs := Sat.start w0 none_
  unfold M_stringslite_HasPrefix at h
  refine wp_seq ?_
  refine R.list ?_
  refine S.val hf hs (v := .bool false) rfl rfl rfl (V.pure rfl) (fun a hf => ?_)
  refine R.nil ?_
  refine X.then_ ?_
  refine wp_seq ?_
  refine R.list ?_
  refine S.val hf hs (v := .string (ba s_)) rfl rfl rfl (V.pure rfl) (fun a hf => ?_)
  refine S.val hf hs (v := .int .i64 (s_.length : Int)) rfl rfl rfl (V.lenStr rfl rfl Tryz.runUnderlying9) (fun a hf => ?_)
  refine S.val hf hs (v := .string (ba prefix_)) rfl rfl rfl (V.pure rfl) (fun a hf => ?_)
  refine S.val hf hs (v := .int .i64 (prefix_.length : Int)) rfl rfl rfl (V.lenStr rfl rfl Tryz.runUnderlying9) (fun a hf => ?_)
  refine S.val hf hs (v := .bool (decide ((s_.length : Int) ≥ (prefix_.length : Int)))) rfl rfl rfl (V.pure rfl) (fun a hf => ?_)
  refine S.split hf hs (b := decide ((s_.length : Int) ≥ (prefix_.length : Int))) rfl rfl rfl (V.pure rfl) (fun hc a hf => ?_) (fun hc a hf => ?_)
  · replace h := h.1 hc
    refine S.val hf hs (v := .string (ba s_)) rfl rfl rfl (V.pure rfl) (fun a hf => ?_)
    refine S.val hf hs (v := .string (ba prefix_)) rfl rfl rfl (V.pure rfl) (fun a hf => ?_)
    refine S.val hf hs (v := .int .i64 (prefix_.length : Int)) rfl rfl rfl (V.lenStr rfl rfl Tryz.runUnderlying9) (fun a hf => ?_)
    obtain ⟨hp1, h⟩ := h
    refine S.val hf hs (v := .string (ba (seg s_ (0 : Int) (prefix_.length : Int)))) rfl rfl rfl (V.sliceStr rfl rfl rfl rfl Tryz.runUnderlying9 rfl rfl hp1) (fun a hf => ?_)
    refine S.val hf hs (v := .string (ba prefix_)) rfl rfl rfl (V.pure rfl) (fun a hf => ?_)
    refine S.val hf hs (v := .bool ((seg s_ (0 : Int) (prefix_.length : Int)) == prefix_)) rfl rfl rfl (V.strCmp ((seg s_ (0 : Int) (prefix_.length : Int)) == prefix_) rfl rfl rfl rfl) (fun a hf => ?_)
    refine S.val hf hs (v := .bool ((seg s_ (0 : Int) (prefix_.length : Int)) == prefix_)) rfl rfl rfl (V.pure rfl) (fun a hf => ?_)
    refine S.val hf hs (v := .bool ((seg s_ (0 : Int) (prefix_.length : Int)) == prefix_)) rfl rfl rfl (V.pure rfl) (fun a hf => ?_)
    refine R.nil ?_
    refine X.then_ ?_
    refine wp_ret ?_
    exact L.ret hf (run_results1 Tryz.results235 (ResIs.tmp hf rfl)) ⟨((seg s_ (0 : Int) (prefix_.length : Int)) == prefix_), rfl, h, hs.nil⟩
  · replace h := h.2 hc
    refine S.skip hf rfl rfl rfl (fun a hf => ?_)
    refine S.skip hf rfl rfl rfl (fun a hf => ?_)
    refine S.skip hf rfl rfl rfl (fun a hf => ?_)
    refine S.skip hf rfl rfl rfl (fun a hf => ?_)
    refine S.skip hf rfl rfl rfl (fun a hf => ?_)
    refine S.skip hf rfl rfl rfl (fun a hf => ?_)
    refine S.val hf hs (v := .bool false) rfl rfl rfl (V.pure rfl) (fun a hf => ?_)
    refine S.val hf hs (v := .bool false) rfl rfl rfl (V.pure rfl) (fun a hf => ?_)
    refine R.nil ?_
    refine X.then_ ?_
    refine wp_ret ?_
    exact L.ret hf (run_results1 Tryz.results235 (ResIs.tmp hf rfl)) ⟨false, rfl, h, hs.nil⟩

set_option linter.unusedVariables false
def M_stringslite_TrimPrefix (s_ : Str) (prefix_ : Str) (Q : Str → Prop) : Prop :=
  M_stringslite_HasPrefix s_ prefix_ fun y1 => cnd y1 (must (0 ≤ (prefix_.length : Int) ∧ (prefix_.length : Int) ≤ (s_.length : Int) ∧ (s_.length : Int) ≤ (s_.length : Int)) (Q (seg s_ (prefix_.length : Int) (s_.length : Int)))) (Q s_)
set_option maxHeartbeats 1000000 in
theorem R_stringslite_TrimPrefix (s_ : Str) (prefix_ : Str) (w0 : World)  (Q : Str → Prop) (h : M_stringslite_TrimPrefix s_ prefix_ Q) :
    Ret Tryz.prog 205 #[.string (ba s_), .string (ba prefix_)] w0 fun v w' => ∃ (r0 : Str), v = .string (ba r0) ∧ Q r0 ∧ Sat w0 none_ [] w' := by
  refine fn_enter Tryz.func205 rfl Tryz.ntmps205 rfl (fs := [(0, .string (ba s_)), (1, .string (ba prefix_))]) rfl (fun a hf => ?_)
  have hs := Sat.start w0 none_
  unfold M_stringslite_TrimPrefix at h
  refine wp_seq ?_
  refine R.list ?_
  refine S.val hf hs (v := .string (ba [])) rfl rfl rfl (V.pure rfl) (fun a hf => ?_)
  refine R.nil ?_
  refine X.then_ ?_
  refine wp_seq ?_
  refine wp_seq ?_
  refine R.list ?_
  refine S.val hf hs (v := .string (ba s_)) rfl rfl rfl (V.pure rfl) (fun a hf => ?_)
  refine S.val hf hs (v := .string (ba prefix_)) rfl rfl rfl (V.pure rfl) (fun a hf => ?_)
  refine S.call hf rfl rfl rfl (call_fn (vs := [.string (ba s_), .string (ba prefix_)]) rfl rfl rfl Tryz.call235) (R_stringslite_HasPrefix s_ prefix_ _  _ h) (fun v a w' hf hr => ?_)
  obtain ⟨y1, rfl, h2, hs2⟩ := hr
  replace h := h2; replace hs := hs.call hs2; clear h2 hs2
  refine R.nil ?_
  refine X.then_ ?_
  refine C.cond hf (b := y1) rfl (fun hc => ?_) (fun hc => ?_)
  · replace h := h.1 hc
    refine wp_seq ?_
    refine R.list ?_
    refine S.val hf hs (v := .string (ba s_)) rfl rfl rfl (V.pure rfl) (fun a hf => ?_)
    refine S.val hf hs (v := .string (ba prefix_)) rfl rfl rfl (V.pure rfl) (fun a hf => ?_)
    refine S.val hf hs (v := .int .i64 (prefix_.length : Int)) rfl rfl rfl (V.lenStr rfl rfl Tryz.runUnderlying9) (fun a hf => ?_)
    obtain ⟨hp1, h⟩ := h
    refine S.val hf hs (v := .string (ba (seg s_ (prefix_.length : Int) (s_.length : Int)))) rfl rfl rfl (V.sliceStr rfl rfl rfl rfl Tryz.runUnderlying9 rfl rfl hp1) (fun a hf => ?_)
    refine S.val hf hs (v := .string (ba (seg s_ (prefix_.length : Int) (s_.length : Int)))) rfl rfl rfl (V.pure rfl) (fun a hf => ?_)
    refine R.nil ?_
    refine X.then_ ?_
    refine wp_ret ?_
    refine X.then_ret ?_
    exact L.ret hf (run_results1 Tryz.results205 (ResIs.tmp hf rfl)) ⟨(seg s_ (prefix_.length : Int) (s_.length : Int)), rfl, h, hs.nil⟩
  · replace h := h.2 hc
    refine wp_skip ?_
    refine X.then_ ?_
    refine wp_seq ?_
    refine R.list ?_
    refine S.val hf hs (v := .string (ba s_)) rfl rfl rfl (V.pure rfl) (fun a hf => ?_)
    refine S.val hf hs (v := .string (ba s_)) rfl rfl rfl (V.pure rfl) (fun a hf => ?_)
    refine R.nil ?_
    refine X.then_ ?_
    refine wp_ret ?_
    exact L.ret hf (run_results1 Tryz.results205 (ResIs.tmp hf rfl)) ⟨s_, rfl, h, hs.nil⟩

set_option linter.unusedVariables false
def M_stringslite_CutPrefix (s_ : Str) (prefix_ : Str) (Q : Str → Bool → Prop) : Prop :=
  M_stringslite_HasPrefix s_ prefix_ fun y1 => cnd (!y1) (Q s_ false) (must (0 ≤ (prefix_.length : Int) ∧ (prefix_.length : Int) ≤ (s_.length : Int) ∧ (s_.length : Int) ≤ (s_.length : Int)) (Q (seg s_ (prefix_.length : Int) (s_.length : Int)) true))
set_option maxHeartbeats 1000000 in
theorem R_stringslite_CutPrefix (s_ : Str) (prefix_ : Str) (w0 : World)  (Q : Str → Bool → Prop) (h : M_stringslite_CutPrefix s_ prefix_ Q) :
    Ret Tryz.prog 206 #[.string (ba s_), .string (ba prefix_)] w0 fun v w' => ∃ (r0 : Str) (r1 : Bool), v = .tuple #[.string (ba r0), .bool r1] ∧ Q r0 r1 ∧ Sat w0 none_ [] w' := by
  refine fn_enter Tryz.func206 rfl Tryz.ntmps206 rfl (fs := [(0, .string (ba s_)), (1, .string (ba prefix_))]) rfl (fun a hf => ?_)
  have hs := Sat.start w0 none_
  unfold M_stringslite_CutPrefix at h
  refine wp_seq ?_
  refine R.list ?_
  refine S.val hf hs (v := .string (ba [])) rfl rfl rfl (V.pure rfl) (fun a hf => ?_)
  refine S.val hf hs (v := .bool false) rfl rfl rfl (V.pure rfl) (fun a hf => ?_)
  refine R.nil ?_
  refine X.then_ ?_
  refine wp_seq ?_
  refine wp_seq ?_
  refine R.list ?_
  refine S.val hf hs (v := .string (ba s_)) rfl rfl rfl (V.pure rfl) (fun a hf => ?_)
  refine S.val hf hs (v := .string (ba prefix_)) rfl rfl rfl (V.pure rfl) (fun a hf => ?_)
  refine S.call hf rfl rfl rfl (call_fn (vs := [.string (ba s_), .string (ba prefix_)]) rfl rfl rfl Tryz.call235) (R_stringslite_HasPrefix s_ prefix_ _  _ h) (fun v a w' hf hr => ?_)
  obtain ⟨y1, rfl, h2, hs2⟩ := hr
  replace h := h2; replace hs := hs.call hs2; clear h2 hs2
  refine S.val hf hs (v := .bool (!y1)) rfl rfl rfl (V.pure rfl) (fun a hf => ?_)
  refine R.nil ?_
  refine X.then_ ?_
  refine C.cond hf (b := !y1) rfl (fun hc => ?_) (fun hc => ?_)
  · replace h := h.1 hc
    refine wp_seq ?_
    refine R.list ?_
    refine S.val hf hs (v := .string (ba s_)) rfl rfl rfl (V.pure rfl) (fun a hf => ?_)
    refine S.val hf hs (v := .string (ba s_)) rfl rfl rfl (V.pure rfl) (fun a hf => ?_)
    refine S.val hf hs (v := .bool false) rfl rfl rfl (V.pure rfl) (fun a hf => ?_)
    refine R.nil ?_
    refine X.then_ ?_
    refine wp_ret ?_
    refine X.then_ret ?_
    exact L.ret hf (run_results2 Tryz.results206 (ResIs.tmp hf rfl) (ResIs.tmp hf rfl)) ⟨s_, false, rfl, h, hs.nil⟩
  · replace h := h.2 hc
    refine wp_skip ?_
    refine X.then_ ?_
    refine wp_seq ?_
    refine R.list ?_
    refine S.val hf hs (v := .string (ba s_)) rfl rfl rfl (V.pure rfl) (fun a hf => ?_)
    refine S.val hf hs (v := .string (ba prefix_)) rfl rfl rfl (V.pure rfl) (fun a hf => ?_)
    refine S.val hf hs (v := .int .i64 (prefix_.length : Int)) rfl rfl rfl (V.lenStr rfl rfl Tryz.runUnderlying9) (fun a hf => ?_)
    obtain ⟨hp1, h⟩ := h
    refine S.val hf hs (v := .string (ba (seg s_ (prefix_.length : Int) (s_.length : Int)))) rfl rfl rfl (V.sliceStr rfl rfl rfl rfl Tryz.runUnderlying9 rfl rfl hp1) (fun a hf => ?_)
    refine S.val hf hs (v := .string (ba (seg s_ (prefix_.length : Int) (s_.length : Int)))) rfl rfl rfl (V.pure rfl) (fun a hf => ?_)
    refine S.val hf hs (v := .bool true) rfl rfl rfl (V.pure rfl) (fun a hf => ?_)
    refine R.nil ?_
    refine X.then_ ?_
    refine wp_ret ?_
    exact L.ret hf (run_results2 Tryz.results206 (ResIs.tmp hf rfl) (ResIs.tmp hf rfl)) ⟨(seg s_ (prefix_.length : Int) (s_.length : Int)), true, rfl, h, hs.nil⟩

set_option linter.unusedVariables false
def M_strings_TrimPrefix (s_ : Str) (prefix_ : Str) (Q : Str → Prop) : Prop :=
  M_stringslite_TrimPrefix s_ prefix_ fun y1 => Q y1
set_option maxHeartbeats 1000000 in
theorem R_strings_TrimPrefix (s_ : Str) (prefix_ : Str) (w0 : World)  (Q : Str → Prop) (h : M_strings_TrimPrefix s_ prefix_ Q) :
    Ret Tryz.prog 156 #[.string (ba s_), .string (ba prefix_)] w0 fun v w' => ∃ (r0 : Str), v = .string (ba r0) ∧ Q r0 ∧ Sat w0 none_ [] w' := by
  refine fn_enter Tryz.func156 rfl Tryz.ntmps156 rfl (fs := [(0, .string (ba s_)), (1, .string (ba prefix_))]) rfl (fun a hf => ?_)
  have hs := Sat.start w0 none_
  unfold M_strings_TrimPrefix at h
  refine wp_seq ?_
  refine R.list ?_
  refine S.val hf hs (v := .string (ba [])) rfl rfl rfl (V.pure rfl) (fun a hf => ?_)
  refine R.nil ?_
  refine X.then_ ?_
  refine wp_seq ?_
  refine R.list ?_
  refine S.val hf hs (v := .string (ba s_)) rfl rfl rfl (V.pure rfl) (fun a hf => ?_)
  refine S.val hf hs (v := .string (ba prefix_)) rfl rfl rfl (V.pure rfl) (fun a hf => ?_)
  refine S.call hf rfl rfl rfl (call_fn (vs := [.string (ba s_), .string (ba prefix_)]) rfl rfl rfl Tryz.call205) (R_stringslite_TrimPrefix s_ prefix_ _  _ h) (fun v a w' hf hr => ?_)
  obtain ⟨y1, rfl, h2, hs2⟩ := hr
  replace h := h2; replace hs := hs.call hs2; clear h2 hs2
  refine S.val hf hs (v := .string (ba y1)) rfl rfl rfl (V.pure rfl) (fun a hf => ?_)
  refine R.nil ?_
  refine X.then_ ?_
  refine wp_ret ?_
  exact L.ret hf (run_results1 Tryz.results156 (ResIs.tmp hf rfl)) ⟨y1, rfl, h, hs.nil⟩

set_option linter.unusedVariables false
def M_strings_CutPrefix (s_ : Str) (prefix_ : Str) (Q : Str → Bool → Prop) : Prop :=
  M_stringslite_CutPrefix s_ prefix_ fun y1 y2 => Q y1 y2
set_option maxHeartbeats 1000000 in
theorem R_strings_CutPrefix (s_ : Str) (prefix_ : Str) (w0 : World)  (Q : Str → Bool → Prop) (h : M_strings_CutPrefix s_ prefix_ Q) :
    Ret Tryz.prog 161 #[.string (ba s_), .string (ba prefix_)] w0 fun v w' => ∃ (r0 : Str) (r1 : Bool), v = .tuple #[.string (ba r0), .bool r1] ∧ Q r0 r1 ∧ Sat w0 none_ [] w' := by
  refine fn_enter Tryz.func161 rfl Tryz.ntmps161 rfl (fs := [(0, .string (ba s_)), (1, .string (ba prefix_))]) rfl (fun a hf => ?_)
  have hs := Sat.start w0 none_
  unfold M_strings_CutPrefix at h
  refine wp_seq ?_
  refine R.list ?_
  refine S.val hf hs (v := .string (ba [])) rfl rfl rfl (V.pure rfl) (fun a hf => ?_)
  refine S.val hf hs (v := .bool false) rfl rfl rfl (V.pure rfl) (fun a hf => ?_)
  refine R.nil ?_
  refine X.then_ ?_
  refine wp_seq ?_
  refine R.list ?_
  refine S.val hf hs (v := .string (ba s_)) rfl rfl rfl (V.pure rfl) (fun a hf => ?_)
  refine S.val hf hs (v := .string (ba prefix_)) rfl rfl rfl (V.pure rfl) (fun a hf => ?_)
  refine S.call hf rfl rfl rfl (call_fn (vs := [.string (ba s_), .string (ba prefix_)]) rfl rfl rfl Tryz.call206) (R_stringslite_CutPrefix s_ prefix_ _  _ h) (fun v a w' hf hr => ?_)
  obtain ⟨y1, y2, rfl, h2, hs2⟩ := hr
  replace h := h2; replace hs := hs.call hs2; clear h2 hs2
  refine S.val hf hs (v := .string (ba y1)) rfl rfl rfl (V.pure rfl) (fun a hf => ?_)
  refine S.val hf hs (v := .bool y2) rfl rfl rfl (V.pure rfl) (fun a hf => ?_)
  refine S.val hf hs (v := .string (ba y1)) rfl rfl rfl (V.pure rfl) (fun a hf => ?_)
  refine S.val hf hs (v := .bool y2) rfl rfl rfl (V.pure rfl) (fun a hf => ?_)
  refine R.nil ?_
  refine X.then_ ?_
  refine wp_ret ?_
  exact L.ret hf (run_results2 Tryz.results161 (ResIs.tmp hf rfl) (ResIs.tmp hf rfl)) ⟨y1, y2, rfl, h, hs.nil⟩

/-- the closure of isRow: a rune below 33 or above 126 -/
theorem pred_mount_ContainsRow (w : World) : PredAtRunes Tryz.prog 117 #[] (fun r => decide (r < 33) || decide (126 < r)) w := fun W r _ _ => by
  unfold FnGives
  by_cases h1 : r < 33 <;> by_cases h2 : 126 < r
  all_goals
    have z1 : (r : Int) < 33 ↔ r < 33 := by omega
    have z2 : (126 : Int) < r ↔ 126 < r := by omega
    go_enter Tryz.func117, Tryz.ntmps117
    go_wp2
    all_goals first | (exfalso; omega) | (go_ret; exact ⟨by simp [h1, h2], 0, rfl⟩)
/-- strings.ContainsFunc at isRow's closure: the kit's shelf -/
def M_mount_ContainsRow (s : Str) (Q : Bool → Prop) : Prop := Q (decide (0 ≤ Lib.idxFunc (fun r => decide (r < 33) || decide (126 < r)) true (ba s)))
theorem R_mount_ContainsRow (s : Str) (w0 : World) (Q : Bool → Prop) (h : M_mount_ContainsRow s Q) :
    Ret Tryz.prog 99 #[.string (ba s), .func (.func 117) #[] #[]] w0 fun v w' => ∃ (r0 : Bool), v = .bool r0 ∧ Q r0 ∧ Sat w0 none_ [] w' := by
  have key := Any.strings_ContainsFunc_grows (P := Tryz.prog) Tryz.lays17 117 #[] (enters_of Tryz.func117 (by kernel_rfl) rfl) _ (ba s) w0 (pred_mount_ContainsRow w0).grows
  exact Calls.mono key fun e w' ⟨he, hb⟩ => ⟨_, he, _, rfl, h, ⟨Keeps.of_below hb none_ (fun e => absurd e (by decide)), trivial⟩⟩

set_option linter.unusedVariables false
def M_mount_notRow (x_ : Str) (Q : Bool → Prop) : Prop :=
  cnd (x_ == []) (Q true) (M_mount_ContainsRow x_ fun y1 => Q y1)
set_option maxHeartbeats 1000000 in
theorem R_mount_notRow (x_ : Str) (w0 : World)  (Q : Bool → Prop) (h : M_mount_notRow x_ Q) :
    Ret Tryz.prog 116 #[.string (ba x_)] w0 fun v w' => ∃ (r0 : Bool), v = .bool r0 ∧ Q r0 ∧ Sat w0 none_ [] w' := by
  refine fn_enter Tryz.func116 rfl Tryz.ntmps116 rfl (fs := [(0, .string (ba x_))]) rfl (fun a hf => ?_)
  have hs := Sat.start w0 none_
  unfold M_mount_notRow at h
  refine wp_seq ?_
  refine R.list ?_
  refine S.val hf hs (v := .bool false) rfl rfl rfl (V.pure rfl) (fun a hf => ?_)
  refine R.nil ?_
  refine X.then_ ?_
  refine wp_seq ?_
  refine R.list ?_
  refine S.val hf hs (v := .string (ba x_)) rfl rfl rfl (V.pure rfl) (fun a hf => ?_)
  refine S.val hf hs (v := .bool (x_ == [])) rfl rfl rfl (V.strCmp (x_ == []) rfl rfl rfl rfl) (fun a hf => ?_)
  refine S.split hf hs (b := x_ == []) rfl rfl rfl (V.pure rfl) (fun hc a hf => ?_) (fun hc a hf => ?_)
  · replace h := h.1 hc
    refine S.skip hf rfl rfl rfl (fun a hf => ?_)
    refine S.skip hf rfl rfl rfl (fun a hf => ?_)
    refine S.val hf hs (v := .bool true) rfl rfl rfl (V.pure rfl) (fun a hf => ?_)
    refine S.val hf hs (v := .bool true) rfl rfl rfl (V.pure rfl) (fun a hf => ?_)
    refine R.nil ?_
    refine X.then_ ?_
    refine wp_ret ?_
    exact L.ret hf (run_results1 Tryz.results116 (ResIs.tmp hf rfl)) ⟨true, rfl, h, hs.nil⟩
  · replace h := h.2 hc
    refine S.val hf hs (v := .string (ba x_)) rfl rfl rfl (V.pure rfl) (fun a hf => ?_)
    refine S.call hf rfl rfl rfl (call_fn (vs := [.string (ba x_), .func (.func 117) #[] #[]]) rfl rfl rfl Tryz.call99) (R_mount_ContainsRow x_ _  _ h) (fun v a w' hf hr => ?_)
    obtain ⟨y1, rfl, h2, hs2⟩ := hr
    replace h := h2; replace hs := hs.call hs2; clear h2 hs2
    refine S.val hf hs (v := .bool y1) rfl rfl rfl (V.pure rfl) (fun a hf => ?_)
    refine S.val hf hs (v := .bool y1) rfl rfl rfl (V.pure rfl) (fun a hf => ?_)
    refine R.nil ?_
    refine X.then_ ?_
    refine wp_ret ?_
    exact L.ret hf (run_results1 Tryz.results116 (ResIs.tmp hf rfl)) ⟨y1, rfl, h, hs.nil⟩

set_option linter.unusedVariables false
def M_indexfunc_mount_L1 (Q : Int → Prop) (k1 : Nat) (xk1 : Str)  (next1 : Prop) : Prop :=
  M_mount_notRow xk1 fun y1 => cnd y1 (Q (k1 : Int)) (next1)
def M_indexfunc_mount (s_ : (List Str)) (Q : Int → Prop) : Prop :=
  forIn' (fun k x (s : Unit) next => M_indexfunc_mount_L1 Q k x (next ())) (fun (s : Unit) => Q (-1)) s_ 0 ()
set_option maxHeartbeats 1000000 in
theorem R_indexfunc_mount (s_ : (List Str)) (w0 : World) (s_A : Option Addr) (s_C : Nat) (hv_s_ : View w0 (old w0 none_) s_A s_C s_) (Q : Int → Prop) (h : M_indexfunc_mount s_ Q) :
    Ret Tryz.prog 140 #[.slice s_A s_.length s_C, .func (.func 116) #[] #[]] w0 fun v w' => ∃ (r0 : Int), v = .int .i64 r0 ∧ Q r0 ∧ Sat w0 none_ [] w' := by
  refine fn_enter Tryz.func140 rfl Tryz.ntmps140 rfl (fs := [(0, .slice s_A s_.length s_C), (1, .func (.func 116) #[] #[])]) rfl (fun a hf => ?_)
  have hs := Sat.start w0 none_
  unfold M_indexfunc_mount at h
  refine wp_seq ?_
  refine R.list ?_
  refine S.val hf hs (v := .int .i64 0) rfl rfl rfl (V.pure rfl) (fun a hf => ?_)
  refine R.nil ?_
  refine X.then_ ?_
  refine wp_seq ?_
  refine wp_seq ?_
  refine R.list ?_
  refine S.val hf hs (v := .slice s_A s_.length s_C) rfl rfl rfl (V.pure rfl) (fun a hf => ?_)
  refine S.val hf hs (v := .int .i64 (s_.length : Int)) rfl rfl rfl (V.len rfl rfl Tryz.runUnderlying74) (fun a hf => ?_)
  refine S.val hf hs (v := .int .i64 0) rfl rfl rfl (V.pure rfl) (fun a hf => ?_)
  refine R.nil ?_
  refine X.then_ ?_
  refine wp_block ?_
  have hlenk1 := hv_s_.len64
  refine C.range (fun (ll : List Str) a w => ∃ (k1 : Nat) , s_.drop k1 = ll ∧ k1 + ll.length = s_.length ∧ forIn' (fun k x (s : Unit) next => M_indexfunc_mount_L1 Q k x (next ())) (fun (s : Unit) => Q (-1)) ll k1 () ∧ FrOk 19 [(8, .int .i64 (k1 : Int)), (0, .slice s_A s_.length s_C), (1, .func (.func 116) #[] #[]), (7, .int .i64 (s_.length : Int))] a ∧ Sat w0 none_ [] w) s_ ⟨0, rfl, Nat.zero_add _, h, ((((hf.nil.cons (hf.get 7 _ rfl)).cons (hf.get 1 _ rfl)).cons (hf.get 0 _ rfl)).cons (hf.get 8 _ rfl)), hs⟩ ?_
  clear h hf hs
  rintro llk1 a w ⟨k1, hlk1, hkk1, h, hf, hs⟩
  cases llk1 with
  | nil =>
    have hc := range_done hkk1
    replace h : Q (-1) := h
    refine wp_seq ?_
    refine R.list ?_
    refine S.val hf hs (v := .bool false) rfl rfl rfl (V.cmp false rfl rfl rfl rfl hc) (fun a hf => ?_)
    refine R.nil ?_
    refine X.then_ ?_
    refine wp_seq ?_
    refine C.no hf rfl ?_
    refine wp_exit ?_
    refine X.then_exit ?_
    refine X.then_exit ?_
    refine X.blk_exit ?_
    refine X.then_ ?_
    refine wp_seq ?_
    refine R.list ?_
    refine S.val hf hs (v := .int .i64 (-1)) rfl rfl rfl (V.pure rfl) (fun a hf => ?_)
    refine R.nil ?_
    refine X.then_ ?_
    refine wp_ret ?_
    exact L.ret hf (run_results1 Tryz.results140 (ResIs.tmp hf rfl)) ⟨(-1), rfl, h, hs.nil⟩
  | cons xk1 llk1 =>
    have hltk1 := range_lt hkk1; have hc := range_go hkk1; have hxk1 := range_get hlk1
    obtain ⟨next1, hnext1⟩ : ∃ X : Prop, X = (forIn' (fun k x (s : Unit) next => M_indexfunc_mount_L1 Q k x (next ())) (fun (s : Unit) => Q (-1)) llk1 (k1 + 1) ()) := ⟨_, rfl⟩
    replace h : M_indexfunc_mount_L1 Q k1 xk1  next1 := by rw [hnext1]; exact h
    unfold M_indexfunc_mount_L1 at h
    refine wp_seq ?_
    refine R.list ?_
    refine S.val hf hs (v := .bool true) rfl rfl rfl (V.cmp true rfl rfl rfl rfl hc) (fun a hf => ?_)
    refine R.nil ?_
    refine X.then_ ?_
    refine wp_seq ?_
    refine C.yes hf rfl ?_
    refine wp_skip ?_
    refine X.then_ ?_
    refine wp_seq ?_
    refine wp_block ?_
    refine wp_seq ?_
    refine R.list ?_
    refine S.val hf hs (v := .int .i64 (k1 : Int)) rfl rfl rfl (V.pure rfl) (fun a hf => ?_)
    refine S.val hf hs (v := .int .i64 (k1 : Int)) rfl rfl rfl (V.pure rfl) (fun a hf => ?_)
    refine R.nil ?_
    refine X.then_ ?_
    refine wp_seq ?_
    refine R.list ?_
    refine S.val hf hs (v := .func (.func 116) #[] #[]) rfl rfl rfl (V.pure rfl) (fun a hf => ?_)
    refine S.val hf hs (v := .slice s_A s_.length s_C) rfl rfl rfl (V.pure rfl) (fun a hf => ?_)
    refine S.val hf hs (v := .int .i64 (k1 : Int)) rfl rfl rfl (V.pure rfl) (fun a hf => ?_)
    refine S.val hf hs (v := elemPtr s_A (k1 * 1)) rfl rfl rfl (V.index rfl rfl rfl Tryz.runUnderlying74 Tryz.sizeOf9 (hv_s_.some_ (lt_of_get hxk1)) (Int.natCast_nonneg _) (lt_of_get hxk1) rfl) (fun a hf => ?_)
    refine S.val hf hs (v := .string (ba xk1)) rfl rfl rfl (V.loadEl (off := 0) (Ag.args _ _ _) (hv_s_.flat hxk1) rfl rfl rfl Tryz.isAgg9 Tryz.sizeOf9 rfl rfl) (fun a hf => ?_)
    refine S.call hf rfl rfl rfl (call_fn (vs := [.string (ba xk1)]) rfl rfl rfl Tryz.call116) (R_mount_notRow xk1 _  _ h) (fun v a w' hf hr => ?_)
    obtain ⟨y1, rfl, h2, hs2⟩ := hr
    replace h := h2; replace hs := hs.call hs2; clear h2 hs2
    refine R.nil ?_
    refine X.then_ ?_
    refine C.cond hf (b := y1) rfl (fun hc => ?_) (fun hc => ?_)
    · replace h := h.1 hc
      refine wp_seq ?_
      refine R.list ?_
      refine S.val hf hs (v := .int .i64 (k1 : Int)) rfl rfl rfl (V.pure rfl) (fun a hf => ?_)
      refine S.val hf hs (v := .int .i64 (k1 : Int)) rfl rfl rfl (V.pure rfl) (fun a hf => ?_)
      refine R.nil ?_
      refine X.then_ ?_
      refine wp_ret ?_
      refine X.blk_ret ?_
      refine X.then_ret ?_
      refine X.then_ret ?_
      refine X.blk_ret ?_
      refine X.then_ret ?_
      exact L.ret hf (run_results1 Tryz.results140 (ResIs.tmp hf rfl)) ⟨(k1 : Int), rfl, h, hs.nil⟩
    · replace h := h.2 hc
      refine wp_skip ?_
      refine X.blk ?_
      refine X.then_ ?_
      refine R.list ?_
      refine S.val hf hs (v := .int .i64 ((k1 + 1 : Nat) : Int)) rfl rfl rfl (V.incr rfl rfl rfl hltk1 hlenk1) (fun a hf => ?_)
      refine S.val hf hs (v := .int .i64 ((k1 + 1 : Nat) : Int)) rfl rfl rfl (V.pure rfl) (fun a hf => ?_)
      refine R.nil ?_
      refine X.then_ ?_
      exact ⟨xk1, llk1, rfl, k1 + 1, range_drop hlk1, range_len hkk1, (by rw [hnext1] at h; exact h), ((((hf.nil.cons (hf.get 7 _ rfl)).cons (hf.get 1 _ rfl)).cons (hf.get 0 _ rfl)).cons (hf.get 8 _ rfl)), hs⟩

set_option linter.unusedVariables false
def M_contains_mount (s_ : (List Str)) (Q : Bool → Prop) : Prop :=
  M_indexfunc_mount s_ fun y1 => Q (decide (y1 ≥ 0))
set_option maxHeartbeats 1000000 in
theorem R_contains_mount (s_ : (List Str)) (w0 : World) (s_A : Option Addr) (s_C : Nat) (hv_s_ : View w0 (old w0 none_) s_A s_C s_) (Q : Bool → Prop) (h : M_contains_mount s_ Q) :
    Ret Tryz.prog 80 #[.slice s_A s_.length s_C, .func (.func 116) #[] #[]] w0 fun v w' => ∃ (r0 : Bool), v = .bool r0 ∧ Q r0 ∧ Sat w0 none_ [] w' := by
  refine fn_enter Tryz.func80 rfl Tryz.ntmps80 rfl (fs := [(0, .slice s_A s_.length s_C), (1, .func (.func 116) #[] #[])]) rfl (fun a hf => ?_)
  have hs := Sat.start w0 none_
  unfold M_contains_mount at h
  refine wp_seq ?_
  refine R.list ?_
  refine S.val hf hs (v := .bool false) rfl rfl rfl (V.pure rfl) (fun a hf => ?_)
  refine R.nil ?_
  refine X.then_ ?_
  refine wp_seq ?_
  refine R.list ?_
  refine S.val hf hs (v := .slice s_A s_.length s_C) rfl rfl rfl (V.pure rfl) (fun a hf => ?_)
  refine S.val hf hs (v := .func (.func 116) #[] #[]) rfl rfl rfl (V.pure rfl) (fun a hf => ?_)
  refine S.call hf rfl rfl rfl (call_fn (vs := [.slice s_A s_.length s_C, .func (.func 116) #[] #[]]) rfl rfl rfl Tryz.call140) (R_indexfunc_mount s_ _ s_A s_C ((Ag.args _ _ _).view hv_s_ hs) _ h) (fun v a w' hf hr => ?_)
  obtain ⟨y1, rfl, h2, hs2⟩ := hr
  replace h := h2; replace hs := hs.call hs2; clear h2 hs2
  refine S.val hf hs (v := .bool (decide (y1 ≥ 0))) rfl rfl rfl (V.pure rfl) (fun a hf => ?_)
  refine S.val hf hs (v := .bool (decide (y1 ≥ 0))) rfl rfl rfl (V.pure rfl) (fun a hf => ?_)
  refine R.nil ?_
  refine X.then_ ?_
  refine wp_ret ?_
  exact L.ret hf (run_results1 Tryz.results80 (ResIs.tmp hf rfl)) ⟨(decide (y1 ≥ 0)), rfl, h, hs.nil⟩

set_option linter.unusedVariables false
def M_mount_numbers_k3 (Q : (List Int) → Bool → Prop) (xk1 : Str) (l2 : List Int) (next1 : List Int → Prop) (c1 : Bool) : Prop :=
  cnd c1 (Q ([] : List Int) false) (M_strconv_Atoi xk1 fun y1 y2 => must (room (l2 ++ [y1]).length 8) (next1 (l2 ++ [y1])))
def M_mount_numbers_k2 (Q : (List Int) → Bool → Prop) (xk1 : Str) (l2 : List Int) (next1 : List Int → Prop) (s1 : Str) : Prop :=
  cnd (decide ((s1.length : Int) < 1)) (M_mount_numbers_k3 Q xk1 l2 next1 true) (cnd (decide ((s1.length : Int) > 9)) (M_mount_numbers_k3 Q xk1 l2 next1 true) (M_strings_Trim s1 [48, 49, 50, 51, 52, 53, 54, 55, 56, 57] fun y3 => cnd (!(y3 == [])) (M_mount_numbers_k3 Q xk1 l2 next1 true) (idx s1 0 fun x1 => cnd ((x1.toNat : Int) == 48) (M_mount_numbers_k3 Q xk1 l2 next1 (!(xk1 == [48]))) (M_mount_numbers_k3 Q xk1 l2 next1 false))))
def M_mount_numbers_L1 (signed : Int) (Q : (List Int) → Bool → Prop) (k1 : Nat) (xk1 : Str) (l2 : List Int) (next1 : List Int → Prop) : Prop :=
  cnd (decide ((k1 : Int) < signed)) (M_strings_TrimPrefix xk1 [45] fun y4 => M_mount_numbers_k2 Q xk1 l2 next1 y4) (M_mount_numbers_k2 Q xk1 l2 next1 xk1)
def M_mount_numbers (l : (List Str)) (signed : Int) (Q : (List Int) → Bool → Prop) : Prop :=
  forIn' (fun k x (s : List Int) next => M_mount_numbers_L1 signed Q k x s (fun l2 => next l2)) (fun (s : List Int) => (fun (l2 : List Int) => Q l2 true) s) l 0 ([] : List Int)
set_option maxHeartbeats 1000000 in
theorem R_mount_numbers (l : (List Str)) (signed : Int) (w0 : World) (lA : Option Addr) (lC : Nat) (hv_l : View w0 (old w0 none_) lA lC l) (Q : (List Int) → Bool → Prop) (h : M_mount_numbers l signed Q) :
    Ret Tryz.prog 118 #[.slice lA l.length lC, .int .i64 signed] w0 fun v w' => ∃ (r0 : (List Int)) (r0A : Option Addr) (r0C : Nat) (r1 : Bool), v = .tuple #[.slice r0A r0.length r0C, .bool r1] ∧ Q r0 r1 ∧ Sat w0 none_ [hown 3 r0A r0C r0] w' := by
  refine fn_enter Tryz.func118 rfl Tryz.ntmps118 rfl (fs := [(0, .slice lA l.length lC), (1, .int .i64 signed)]) rfl (fun a hf => ?_)
  have hs := Sat.start w0 none_
  unfold M_mount_numbers at h
  refine wp_seq ?_
  refine R.list ?_
  refine S.val hf hs (v := .slice none 0 0) rfl rfl rfl (V.pure rfl) (fun a hf => ?_)
  refine S.val hf hs (v := .bool false) rfl rfl rfl (V.pure rfl) (fun a hf => ?_)
  refine R.nil ?_
  refine X.then_ ?_
  refine wp_seq ?_
  refine R.list ?_
  refine S.val hf hs (v := .slice none 0 0) rfl rfl rfl (V.pure rfl) (fun a hf => ?_)
  refine R.nil ?_
  refine X.then_ ?_
  refine wp_seq ?_
  refine wp_seq ?_
  refine R.list ?_
  refine S.val hf hs (v := .slice lA l.length lC) rfl rfl rfl (V.pure rfl) (fun a hf => ?_)
  refine S.val hf hs (v := .int .i64 (l.length : Int)) rfl rfl rfl (V.len rfl rfl Tryz.runUnderlying74) (fun a hf => ?_)
  refine S.val hf hs (v := .int .i64 0) rfl rfl rfl (V.pure rfl) (fun a hf => ?_)
  refine R.nil ?_
  refine X.then_ ?_
  refine wp_block ?_
  replace hs := hs.nilOwn (α := Int) 3
  have hlenk1 := hv_l.len64
  refine C.range (fun (ll : List Str) a w => ∃ (k1 : Nat) (l2 : List Int) (l2A : Option Addr) (l2C : Nat), l.drop k1 = ll ∧ k1 + ll.length = l.length ∧ forIn' (fun k x (s : List Int) next => M_mount_numbers_L1 signed Q k x s (fun l2 => next l2)) (fun (s : List Int) => (fun (l2 : List Int) => Q l2 true) s) ll k1 l2 ∧ FrOk 58 [(14, .int .i64 (k1 : Int)), (1, .int .i64 signed), (6, .slice l2A l2.length l2C), (12, .slice lA l.length lC), (13, .int .i64 (l.length : Int))] a ∧ Sat w0 none_ [hown 3 l2A l2C l2] w) l ⟨0, ([] : List Int), none, 0, rfl, Nat.zero_add _, h, (((((hf.nil.cons (hf.get 13 _ rfl)).cons (hf.get 12 _ rfl)).cons (hf.get 6 _ rfl)).cons (hf.get 1 _ rfl)).cons (hf.get 14 _ rfl)), hs⟩ ?_
  clear h hf hs
  rintro llk1 a w ⟨k1, l2, l2A, l2C, hlk1, hkk1, h, hf, hs⟩
  cases llk1 with
  | nil =>
    have hc := range_done hkk1
    replace h : (fun (l2 : List Int) => Q l2 true) l2 := h
    refine wp_seq ?_
    refine R.list ?_
    refine S.val hf hs (v := .bool false) rfl rfl rfl (V.cmp false rfl rfl rfl rfl hc) (fun a hf => ?_)
    refine R.nil ?_
    refine X.then_ ?_
    refine wp_seq ?_
    refine C.no hf rfl ?_
    refine wp_exit ?_
    refine X.then_exit ?_
    refine X.then_exit ?_
    refine X.blk_exit ?_
    refine X.then_ ?_
    refine wp_seq ?_
    refine R.list ?_
    refine S.val hf hs (v := .slice l2A l2.length l2C) rfl rfl rfl (V.pure rfl) (fun a hf => ?_)
    refine S.val hf hs (v := .slice l2A l2.length l2C) rfl rfl rfl (V.pure rfl) (fun a hf => ?_)
    refine S.val hf hs (v := .bool true) rfl rfl rfl (V.pure rfl) (fun a hf => ?_)
    refine R.nil ?_
    refine X.then_ ?_
    refine wp_ret ?_
    replace hs := hs.take 1
    exact L.ret hf (run_results2 Tryz.results118 (ResIs.tmp hf rfl) (ResIs.tmp hf rfl)) ⟨l2, l2A, l2C, true, rfl, h, hs⟩
  | cons xk1 llk1 =>
    have hltk1 := range_lt hkk1; have hc := range_go hkk1; have hxk1 := range_get hlk1
    obtain ⟨next1, hnext1⟩ : ∃ X : List Int → Prop, X = (fun l2 => forIn' (fun k x (s : List Int) next => M_mount_numbers_L1 signed Q k x s (fun l2 => next l2)) (fun (s : List Int) => (fun (l2 : List Int) => Q l2 true) s) llk1 (k1 + 1) l2) := ⟨_, rfl⟩
    replace h : M_mount_numbers_L1 signed Q k1 xk1 l2 next1 := by rw [hnext1]; exact h
    unfold M_mount_numbers_L1 at h
    refine wp_seq ?_
    refine R.list ?_
    refine S.val hf hs (v := .bool true) rfl rfl rfl (V.cmp true rfl rfl rfl rfl hc) (fun a hf => ?_)
    refine R.nil ?_
    refine X.then_ ?_
    refine wp_seq ?_
    refine C.yes hf rfl ?_
    refine wp_skip ?_
    refine X.then_ ?_
    refine wp_seq ?_
    refine wp_block ?_
    refine wp_seq ?_
    refine R.list ?_
    refine S.val hf hs (v := .int .i64 (k1 : Int)) rfl rfl rfl (V.pure rfl) (fun a hf => ?_)
    refine S.val hf hs (v := elemPtr lA (k1 * 1)) rfl rfl rfl (V.index rfl rfl rfl Tryz.runUnderlying74 Tryz.sizeOf9 (hv_l.some_ (lt_of_get hxk1)) (Int.natCast_nonneg _) (lt_of_get hxk1) rfl) (fun a hf => ?_)
    refine S.val hf hs (v := .string (ba xk1)) rfl rfl rfl (V.loadEl (off := 0) (Ag.args _ _ _) (hv_l.flat hxk1) rfl rfl rfl Tryz.isAgg9 Tryz.sizeOf9 rfl rfl) (fun a hf => ?_)
    refine S.val hf hs (v := .int .i64 (k1 : Int)) rfl rfl rfl (V.pure rfl) (fun a hf => ?_)
    refine S.val hf hs (v := .string (ba xk1)) rfl rfl rfl (V.pure rfl) (fun a hf => ?_)
    refine R.nil ?_
    refine X.then_ ?_
    refine wp_seq ?_
    refine R.list ?_
    refine S.val hf hs (v := .string (ba xk1)) rfl rfl rfl (V.pure rfl) (fun a hf => ?_)
    refine S.val hf hs (v := .string (ba xk1)) rfl rfl rfl (V.pure rfl) (fun a hf => ?_)
    refine R.nil ?_
    refine X.then_ ?_
    refine wp_seq ?_
    refine C.cut (J := fun a w => ∃ (s1 : Str), M_mount_numbers_k2 Q xk1 l2 next1 s1 ∧ FrOk 58 [(1, .int .i64 signed), (6, .slice l2A l2.length l2C), (8, .string (ba xk1)), (9, .string (ba s1)), (12, .slice lA l.length lC), (13, .int .i64 (l.length : Int)), (14, .int .i64 (k1 : Int))] a ∧ Sat w0 none_ [hown 3 l2A l2C l2] w) ?_ ?_
    · rintro a w ⟨s1, h, hf, hs⟩
      unfold M_mount_numbers_k2 at h
      refine wp_seq ?_
      refine wp_seq ?_
      refine C.cut (J := fun a w => ∃ (c1 : Bool), M_mount_numbers_k3 Q xk1 l2 next1 c1 ∧ FrOk 58 [(1, .int .i64 signed), (6, .slice l2A l2.length l2C), (8, .string (ba xk1)), (12, .slice lA l.length lC), (13, .int .i64 (l.length : Int)), (14, .int .i64 (k1 : Int)), (46, .bool c1)] a ∧ Sat w0 none_ [hown 3 l2A l2C l2] w) ?_ ?_
      · rintro a w ⟨c1, h, hf, hs⟩
        unfold M_mount_numbers_k3 at h
        refine C.cond hf (b := c1) rfl (fun hc => ?_) (fun hc => ?_)
        · replace h := h.1 hc
          refine wp_seq ?_
          refine R.list ?_
          refine S.val hf hs (v := .slice none 0 0) rfl rfl rfl (V.pure rfl) (fun a hf => ?_)
          refine S.val hf hs (v := .bool false) rfl rfl rfl (V.pure rfl) (fun a hf => ?_)
          refine R.nil ?_
          refine X.then_ ?_
          refine wp_ret ?_
          refine X.then_ret ?_
          refine X.blk_ret ?_
          refine X.then_ret ?_
          refine X.then_ret ?_
          refine X.blk_ret ?_
          refine X.then_ret ?_
          replace hs := hs.nilOwn (α := Int) 3
          replace hs := hs.take 1
          exact L.ret hf (run_results2 Tryz.results118 (ResIs.tmp hf rfl) (ResIs.tmp hf rfl)) ⟨([] : List Int), none, 0, false, rfl, h, hs⟩
        · replace h := h.2 hc
          refine wp_skip ?_
          refine X.then_ ?_
          refine wp_seq ?_
          refine R.list ?_
          refine S.val hf hs (v := .string (ba xk1)) rfl rfl rfl (V.pure rfl) (fun a hf => ?_)
          refine S.call hf rfl rfl rfl (call_fn (vs := [.string (ba xk1)]) rfl rfl rfl Tryz.call143) (R_strconv_Atoi xk1 _  _ h) (fun v a w' hf hr => ?_)
          obtain ⟨y1, y2, rfl, h2, hs2⟩ := hr
          replace h := h2; replace hs := hs.call hs2; clear h2 hs2
          refine S.val hf hs (v := .tuple #[.int .i64 y1, .nilIface]) rfl rfl rfl (V.pure rfl) (fun a hf => ?_)
          refine S.val hf hs (v := .int .i64 y1) rfl rfl rfl (V.pure rfl) (fun a hf => ?_)
          refine S.val hf hs (v := .nilIface) rfl rfl rfl (V.pure rfl) (fun a hf => ?_)
          refine S.val hf hs (v := .int .i64 y1) rfl rfl rfl (V.pure rfl) (fun a hf => ?_)
          refine S.val hf hs (v := .nilIface) rfl rfl rfl (V.pure rfl) (fun a hf => ?_)
          refine R.nil ?_
          refine X.then_ ?_
          refine R.list ?_
          refine S.val hf hs (v := .slice l2A l2.length l2C) rfl rfl rfl (V.pure rfl) (fun a hf => ?_)
          refine S.val hf hs (v := .int .i64 y1) rfl rfl rfl (V.pure rfl) (fun a hf => ?_)
          refine S.build1 hf hs rfl rfl rfl (α := Int) y1 rfl rfl rfl Tryz.runUnderlying118 Tryz.sizeOf3 Tryz.zeroValue3 rfl (by decide) (fun A1 a w hf hs => ?_)
          obtain ⟨hroom, h⟩ := h
          refine S.appendCells 1 hf hs rfl rfl rfl rfl rfl rfl rfl Tryz.underlying118 info3 rfl hroom ((hs.ownView 0 rfl).some_ (i := 0) (by simp)) (hs.ownView 0 rfl) (fun A2 C1 a w hf hs => ?_)
          replace hs := hs.drop
          refine S.val hf hs (v := .slice A2 (l2 ++ [y1]).length C1) rfl rfl rfl (V.pure rfl) (fun a hf => ?_)
          refine R.nil ?_
          refine X.blk ?_
          refine X.then_ ?_
          refine R.list ?_
          refine S.val hf hs (v := .int .i64 ((k1 + 1 : Nat) : Int)) rfl rfl rfl (V.incr rfl rfl rfl hltk1 hlenk1) (fun a hf => ?_)
          refine S.val hf hs (v := .int .i64 ((k1 + 1 : Nat) : Int)) rfl rfl rfl (V.pure rfl) (fun a hf => ?_)
          refine R.nil ?_
          refine X.then_ ?_
          exact ⟨xk1, llk1, rfl, k1 + 1, (l2 ++ [y1]), A2, C1, range_drop hlk1, range_len hkk1, (by rw [hnext1] at h; exact h), (((((hf.nil.cons (hf.get 13 _ rfl)).cons (hf.get 12 _ rfl)).cons (hf.get 6 _ rfl)).cons (hf.get 1 _ rfl)).cons (hf.get 14 _ rfl)), hs⟩
      · skip
        refine R.list ?_
        refine S.val hf hs (v := .string (ba s1)) rfl rfl rfl (V.pure rfl) (fun a hf => ?_)
        refine S.val hf hs (v := .int .i64 (s1.length : Int)) rfl rfl rfl (V.lenStr rfl rfl Tryz.runUnderlying9) (fun a hf => ?_)
        refine S.val hf hs (v := .bool (decide ((s1.length : Int) < 1))) rfl rfl rfl (V.pure rfl) (fun a hf => ?_)
        refine S.split hf hs (b := decide ((s1.length : Int) < 1)) rfl rfl rfl (V.pure rfl) (fun hc a hf => ?_) (fun hc a hf => ?_)
        · replace h := h.1 hc
          refine S.skip hf rfl rfl rfl (fun a hf => ?_)
          refine S.skip hf rfl rfl rfl (fun a hf => ?_)
          refine S.skip hf rfl rfl rfl (fun a hf => ?_)
          refine S.val hf hs (v := .bool true) rfl rfl rfl (V.pure rfl) (fun a hf => ?_)
          refine S.val hf hs (v := .bool true) rfl rfl rfl (V.pure rfl) (fun a hf => ?_)
          refine S.skip hf rfl rfl rfl (fun a hf => ?_)
          refine S.skip hf rfl rfl rfl (fun a hf => ?_)
          refine S.skip hf rfl rfl rfl (fun a hf => ?_)
          refine S.val hf hs (v := .bool true) rfl rfl rfl (V.pure rfl) (fun a hf => ?_)
          refine S.val hf hs (v := .bool true) rfl rfl rfl (V.pure rfl) (fun a hf => ?_)
          refine S.skip hf rfl rfl rfl (fun a hf => ?_)
          refine S.skip hf rfl rfl rfl (fun a hf => ?_)
          refine S.skip hf rfl rfl rfl (fun a hf => ?_)
          refine S.skip hf rfl rfl rfl (fun a hf => ?_)
          refine S.skip hf rfl rfl rfl (fun a hf => ?_)
          refine S.skip hf rfl rfl rfl (fun a hf => ?_)
          refine S.skip hf rfl rfl rfl (fun a hf => ?_)
          refine S.val hf hs (v := .bool true) rfl rfl rfl (V.pure rfl) (fun a hf => ?_)
          refine R.nil ?_
          refine X.then_ ?_
          exact ⟨true, h, (((((((hf.nil.cons (hf.get 46 _ rfl)).cons (hf.get 14 _ rfl)).cons (hf.get 13 _ rfl)).cons (hf.get 12 _ rfl)).cons (hf.get 8 _ rfl)).cons (hf.get 6 _ rfl)).cons (hf.get 1 _ rfl)), hs⟩
        · replace h := h.2 hc
          refine S.val hf hs (v := .string (ba s1)) rfl rfl rfl (V.pure rfl) (fun a hf => ?_)
          refine S.val hf hs (v := .int .i64 (s1.length : Int)) rfl rfl rfl (V.lenStr rfl rfl Tryz.runUnderlying9) (fun a hf => ?_)
          refine S.val hf hs (v := .bool (decide ((s1.length : Int) > 9))) rfl rfl rfl (V.pure rfl) (fun a hf => ?_)
          refine S.val hf hs (v := .bool (decide ((s1.length : Int) > 9))) rfl rfl rfl (V.pure rfl) (fun a hf => ?_)
          refine S.split hf hs (b := decide ((s1.length : Int) > 9)) rfl rfl rfl (V.pure rfl) (fun hc a hf => ?_) (fun hc a hf => ?_)
          · replace h := h.1 hc
            refine S.skip hf rfl rfl rfl (fun a hf => ?_)
            refine S.skip hf rfl rfl rfl (fun a hf => ?_)
            refine S.skip hf rfl rfl rfl (fun a hf => ?_)
            refine S.val hf hs (v := .bool true) rfl rfl rfl (V.pure rfl) (fun a hf => ?_)
            refine S.val hf hs (v := .bool true) rfl rfl rfl (V.pure rfl) (fun a hf => ?_)
            refine S.skip hf rfl rfl rfl (fun a hf => ?_)
            refine S.skip hf rfl rfl rfl (fun a hf => ?_)
            refine S.skip hf rfl rfl rfl (fun a hf => ?_)
            refine S.skip hf rfl rfl rfl (fun a hf => ?_)
            refine S.skip hf rfl rfl rfl (fun a hf => ?_)
            refine S.skip hf rfl rfl rfl (fun a hf => ?_)
            refine S.skip hf rfl rfl rfl (fun a hf => ?_)
            refine S.val hf hs (v := .bool true) rfl rfl rfl (V.pure rfl) (fun a hf => ?_)
            refine R.nil ?_
            refine X.then_ ?_
            exact ⟨true, h, (((((((hf.nil.cons (hf.get 46 _ rfl)).cons (hf.get 14 _ rfl)).cons (hf.get 13 _ rfl)).cons (hf.get 12 _ rfl)).cons (hf.get 8 _ rfl)).cons (hf.get 6 _ rfl)).cons (hf.get 1 _ rfl)), hs⟩
          · replace h := h.2 hc
            refine S.val hf hs (v := .string (ba s1)) rfl rfl rfl (V.pure rfl) (fun a hf => ?_)
            refine S.call hf rfl rfl rfl (call_fn (vs := [.string (ba s1), .string (ba [48, 49, 50, 51, 52, 53, 54, 55, 56, 57])]) rfl rfl rfl Tryz.call142) (R_strings_Trim s1 [48, 49, 50, 51, 52, 53, 54, 55, 56, 57] _  _ h) (fun v a w' hf hr => ?_)
            obtain ⟨y3, rfl, h2, hs2⟩ := hr
            replace h := h2; replace hs := hs.call hs2; clear h2 hs2
            refine S.val hf hs (v := .bool (!(y3 == []))) rfl rfl rfl (V.strCmp (!(y3 == [])) rfl rfl rfl rfl) (fun a hf => ?_)
            refine S.val hf hs (v := .bool (!(y3 == []))) rfl rfl rfl (V.pure rfl) (fun a hf => ?_)
            refine S.split hf hs (b := !(y3 == [])) rfl rfl rfl (V.pure rfl) (fun hc a hf => ?_) (fun hc a hf => ?_)
            · replace h := h.1 hc
              refine S.skip hf rfl rfl rfl (fun a hf => ?_)
              refine S.skip hf rfl rfl rfl (fun a hf => ?_)
              refine S.skip hf rfl rfl rfl (fun a hf => ?_)
              refine S.skip hf rfl rfl rfl (fun a hf => ?_)
              refine S.skip hf rfl rfl rfl (fun a hf => ?_)
              refine S.skip hf rfl rfl rfl (fun a hf => ?_)
              refine S.skip hf rfl rfl rfl (fun a hf => ?_)
              refine S.val hf hs (v := .bool true) rfl rfl rfl (V.pure rfl) (fun a hf => ?_)
              refine R.nil ?_
              refine X.then_ ?_
              exact ⟨true, h, (((((((hf.nil.cons (hf.get 46 _ rfl)).cons (hf.get 14 _ rfl)).cons (hf.get 13 _ rfl)).cons (hf.get 12 _ rfl)).cons (hf.get 8 _ rfl)).cons (hf.get 6 _ rfl)).cons (hf.get 1 _ rfl)), hs⟩
            · replace h := h.2 hc
              refine S.val hf hs (v := .string (ba s1)) rfl rfl rfl (V.pure rfl) (fun a hf => ?_)
              obtain ⟨h0x1, x1, hx1, h⟩ := h
              refine S.val hf hs (v := .int .u8 (x1.toNat : Int)) rfl rfl rfl (V.indexStr rfl rfl rfl Tryz.runUnderlying9 h0x1 hx1) (fun a hf => ?_)
              refine S.val hf hs (v := .bool ((x1.toNat : Int) == 48)) rfl rfl rfl (V.pure rfl) (fun a hf => ?_)
              refine S.split hf hs (b := (x1.toNat : Int) == 48) rfl rfl rfl (V.pure rfl) (fun hc a hf => ?_) (fun hc a hf => ?_)
              · replace h := h.1 hc
                refine S.val hf hs (v := .string (ba xk1)) rfl rfl rfl (V.pure rfl) (fun a hf => ?_)
                refine S.val hf hs (v := .bool (!(xk1 == [48]))) rfl rfl rfl (V.strCmp (!(xk1 == [48])) rfl rfl rfl rfl) (fun a hf => ?_)
                refine S.val hf hs (v := .bool (!(xk1 == [48]))) rfl rfl rfl (V.pure rfl) (fun a hf => ?_)
                refine S.val hf hs (v := .bool (!(xk1 == [48]))) rfl rfl rfl (V.pure rfl) (fun a hf => ?_)
                refine R.nil ?_
                refine X.then_ ?_
                exact ⟨(!(xk1 == [48])), h, (((((((hf.nil.cons (hf.get 46 _ rfl)).cons (hf.get 14 _ rfl)).cons (hf.get 13 _ rfl)).cons (hf.get 12 _ rfl)).cons (hf.get 8 _ rfl)).cons (hf.get 6 _ rfl)).cons (hf.get 1 _ rfl)), hs⟩
              · replace h := h.2 hc
                refine S.skip hf rfl rfl rfl (fun a hf => ?_)
                refine S.skip hf rfl rfl rfl (fun a hf => ?_)
                refine S.val hf hs (v := .bool false) rfl rfl rfl (V.pure rfl) (fun a hf => ?_)
                refine S.val hf hs (v := .bool false) rfl rfl rfl (V.pure rfl) (fun a hf => ?_)
                refine R.nil ?_
                refine X.then_ ?_
                exact ⟨false, h, (((((((hf.nil.cons (hf.get 46 _ rfl)).cons (hf.get 14 _ rfl)).cons (hf.get 13 _ rfl)).cons (hf.get 12 _ rfl)).cons (hf.get 8 _ rfl)).cons (hf.get 6 _ rfl)).cons (hf.get 1 _ rfl)), hs⟩
    · skip
      refine wp_seq ?_
      refine R.list ?_
      refine S.val hf hs (v := .int .i64 (k1 : Int)) rfl rfl rfl (V.pure rfl) (fun a hf => ?_)
      refine S.val hf hs (v := .int .i64 signed) rfl rfl rfl (V.pure rfl) (fun a hf => ?_)
      refine S.val hf hs (v := .bool (decide ((k1 : Int) < signed))) rfl rfl rfl (V.pure rfl) (fun a hf => ?_)
      refine R.nil ?_
      refine X.then_ ?_
      refine C.cond hf (b := decide ((k1 : Int) < signed)) rfl (fun hc => ?_) (fun hc => ?_)
      · replace h := h.1 hc
        refine R.list ?_
        refine S.val hf hs (v := .string (ba xk1)) rfl rfl rfl (V.pure rfl) (fun a hf => ?_)
        refine S.call hf rfl rfl rfl (call_fn (vs := [.string (ba xk1), .string (ba [45])]) rfl rfl rfl Tryz.call156) (R_strings_TrimPrefix xk1 [45] _  _ h) (fun v a w' hf hr => ?_)
        obtain ⟨y4, rfl, h2, hs2⟩ := hr
        replace h := h2; replace hs := hs.call hs2; clear h2 hs2
        refine S.val hf hs (v := .string (ba y4)) rfl rfl rfl (V.pure rfl) (fun a hf => ?_)
        refine R.nil ?_
        refine X.then_ ?_
        exact ⟨y4, h, (((((((hf.nil.cons (hf.get 14 _ rfl)).cons (hf.get 13 _ rfl)).cons (hf.get 12 _ rfl)).cons (hf.get 9 _ rfl)).cons (hf.get 8 _ rfl)).cons (hf.get 6 _ rfl)).cons (hf.get 1 _ rfl)), hs⟩
      · replace h := h.2 hc
        refine wp_skip ?_
        refine X.then_ ?_
        exact ⟨xk1, h, (((((((hf.nil.cons (hf.get 14 _ rfl)).cons (hf.get 13 _ rfl)).cons (hf.get 12 _ rfl)).cons (hf.get 9 _ rfl)).cons (hf.get 8 _ rfl)).cons (hf.get 6 _ rfl)).cons (hf.get 1 _ rfl)), hs⟩

set_option linter.unusedVariables false
def M_mount_readLine_k2 (b : (List Body)) (l : (List Place)) (Q : Bool → (List Body) → (List Place) → Prop) (y1 : (List Str)) (c2 : Bool) : Prop :=
  cnd c2 (must (0 ≤ (3 : Int) ∧ (3 : Int) ≤ 6 ∧ 6 ≤ (y1.length : Int)) (M_mount_numbers (seg y1 (3 : Int) 6) 2 fun y5 y6 => cnd (!y6) (Q false b l) (idx y1 1 fun x6 => idx y1 2 fun x7 => idx y5 0 fun x8 => idx y5 1 fun x9 => idx y5 2 fun x10 => idx y1 6 fun x11 => must (room (l ++ [(⟨x6, x7, (⟨x8, x9⟩ : Point), x10, x11 == [100, 111, 119, 110]⟩ : Place)]).length 64) (Q true b (l ++ [(⟨x6, x7, (⟨x8, x9⟩ : Point), x10, x11 == [100, 111, 119, 110]⟩ : Place)]))))) (Q false b l)
def M_mount_readLine_k1 (b : (List Body)) (l : (List Place)) (Q : Bool → (List Body) → (List Place) → Prop) (y1 : (List Str)) (c1 : Bool) : Prop :=
  cnd c1 (must (0 ≤ (2 : Int) ∧ (2 : Int) ≤ 5 ∧ 5 ≤ (y1.length : Int)) (M_mount_numbers (seg y1 (2 : Int) 5) 0 fun y3 y4 => cnd (!y4) (Q false b l) (idx y1 1 fun x1 => idx y3 0 fun x2 => idx y3 1 fun x3 => idx y3 2 fun x4 => idx y1 5 fun x5 => must (room (b ++ [(⟨x1, x2, x3, x4, x5⟩ : Body)]).length 56) (Q true (b ++ [(⟨x1, x2, x3, x4, x5⟩ : Body)]) l)))) (idx y1 0 fun x12 => cnd (x12 == [112, 108, 97, 99, 101]) (cnd ((y1.length : Int) == 7) (idx y1 6 fun x13 => cnd (x13 == [117, 112]) (M_mount_readLine_k2 b l Q y1 true) (M_mount_readLine_k2 b l Q y1 (x13 == [100, 111, 119, 110]))) (M_mount_readLine_k2 b l Q y1 false)) (M_mount_readLine_k2 b l Q y1 false))
def M_mount_readLine (b : (List Body)) (l : (List Place)) (s_ : Str) (Q : Bool → (List Body) → (List Place) → Prop) : Prop :=
  M_strings_Split s_ [32] fun y1 => M_contains_mount y1 fun y2 => cnd y2 (Q false b l) (idx y1 0 fun x14 => cnd (x14 == [98, 111, 100, 121]) (cnd ((y1.length : Int) == 6) (M_mount_readLine_k1 b l Q y1 ((l.length : Int) == 0)) (M_mount_readLine_k1 b l Q y1 false)) (M_mount_readLine_k1 b l Q y1 false))
set_option maxHeartbeats 1000000 in
theorem R_mount_readLine (b : (List Body)) (l : (List Place)) (s_ : Str) (w0 : World) (F0 : Nat → Prop) (bg : Nat) (bA : Option Addr) (bC : Nat) (lg : Nat) (lA : Option Addr) (lC : Nat) (hs0 : Sat w0 F0 [hbox bg 46 [.slice bA b.length bC], hown 52 bA bC b, hbox lg 47 [.slice lA l.length lC], hown 57 lA lC l] w0) (Q : Bool → (List Body) → (List Place) → Prop) (h : M_mount_readLine b l s_ Q) :
    Ret Tryz.prog 58 #[.pointer (some ⟨bg, 0, none⟩), .pointer (some ⟨lg, 0, none⟩), .string (ba s_)] w0 fun v w' => ∃ (r0 : Bool) (b1 : (List Body)) (b1A : Option Addr) (b1C : Nat) (l1 : (List Place)) (l1A : Option Addr) (l1C : Nat), v = .bool r0 ∧ Q r0 b1 l1 ∧ Sat w0 F0 [hbox bg 46 [.slice b1A b1.length b1C], hown 52 b1A b1C b1, hbox lg 47 [.slice l1A l1.length l1C], hown 57 l1A l1C l1] w' := by
  refine fn_enter Tryz.func58 rfl Tryz.ntmps58 rfl (fs := [(0, .pointer (some ⟨bg, 0, none⟩)), (1, .pointer (some ⟨lg, 0, none⟩)), (2, .string (ba s_))]) rfl (fun a hf => ?_)
  have hs := hs0
  unfold M_mount_readLine at h
  refine wp_seq ?_
  refine R.list ?_
  refine S.val hf hs (v := .bool false) rfl rfl rfl (V.pure rfl) (fun a hf => ?_)
  refine R.nil ?_
  refine X.then_ ?_
  refine wp_seq ?_
  refine R.list ?_
  refine S.val hf hs (v := .string (ba s_)) rfl rfl rfl (V.pure rfl) (fun a hf => ?_)
  refine S.call hf rfl rfl rfl (call_fn (vs := [.string (ba s_), .string (ba [32])]) rfl rfl rfl Tryz.call41) (R_strings_Split s_ [32] _  _ h) (fun v a w' hf hr => ?_)
  obtain ⟨y1, y1A, y1C, rfl, h2, hs2⟩ := hr
  replace h := h2; replace hs := hs.call hs2; clear h2 hs2
  refine S.val hf hs (v := .slice y1A y1.length y1C) rfl rfl rfl (V.pure rfl) (fun a hf => ?_)
  refine R.nil ?_
  refine X.then_ ?_
  refine wp_seq ?_
  refine wp_seq ?_
  refine R.list ?_
  refine S.val hf hs (v := .slice y1A y1.length y1C) rfl rfl rfl (V.pure rfl) (fun a hf => ?_)
  refine S.call hf rfl rfl rfl (call_fn (vs := [.slice y1A y1.length y1C, .func (.func 116) #[] #[]]) rfl rfl rfl Tryz.call80) (R_contains_mount y1 _ y1A y1C (hs.ownView 0 rfl) _ h) (fun v a w' hf hr => ?_)
  obtain ⟨y2, rfl, h2, hs2⟩ := hr
  replace h := h2; replace hs := hs.call hs2; clear h2 hs2
  refine R.nil ?_
  refine X.then_ ?_
  refine C.cond hf (b := y2) rfl (fun hc => ?_) (fun hc => ?_)
  · replace h := h.1 hc
    refine wp_seq ?_
    refine R.list ?_
    refine S.val hf hs (v := .bool false) rfl rfl rfl (V.pure rfl) (fun a hf => ?_)
    refine R.nil ?_
    refine X.then_ ?_
    refine wp_ret ?_
    refine X.then_ret ?_
    replace hs := hs.front 4 rfl
    replace hs := hs.front 4 rfl
    replace hs := hs.front 4 rfl
    replace hs := hs.front 4 rfl
    replace hs := hs.take 4
    exact L.ret hf (run_results1 Tryz.results58 (ResIs.tmp hf rfl)) ⟨false, b, bA, bC, l, lA, lC, rfl, h, hs⟩
  · replace h := h.2 hc
    refine wp_skip ?_
    refine X.then_ ?_
    refine wp_seq ?_
    refine wp_block ?_
    refine wp_seq ?_
    refine C.cut (J := fun a w => ∃ (c1 : Bool), M_mount_readLine_k1 b l Q y1 c1 ∧ FrOk 122 [(0, .pointer (some ⟨bg, 0, none⟩)), (1, .pointer (some ⟨lg, 0, none⟩)), (7, .slice y1A y1.length y1C), (16, .bool c1)] a ∧ Sat w0 F0 [hown 9 y1A y1C y1, hbox bg 46 [.slice bA b.length bC], hown 52 bA bC b, hbox lg 47 [.slice lA l.length lC], hown 57 lA lC l] w) ?_ ?_
    · rintro a w ⟨c1, h, hf, hs⟩
      unfold M_mount_readLine_k1 at h
      refine C.cond hf (b := c1) rfl (fun hc => ?_) (fun hc => ?_)
      · replace h := h.1 hc
        refine wp_seq ?_
        refine R.list ?_
        refine S.val hf hs (v := .slice y1A y1.length y1C) rfl rfl rfl (V.pure rfl) (fun a hf => ?_)
        obtain ⟨hp1, h⟩ := h
        refine S.val hf hs (v := .slice (segA y1A y1C ((2 : Int) : Int).toNat 1) (seg y1 (2 : Int) 5).length (y1C - ((2 : Int) : Int).toNat)) rfl rfl rfl (V.slice rfl rfl rfl rfl Tryz.runUnderlying74 Tryz.sizeOf9 rfl rfl hp1 (hs.ownView 0 rfl).cap (seg_length (by have := hp1.2.2; omega))) (fun a hf => ?_)
        refine S.call hf rfl rfl rfl (call_fn (vs := [.slice (segA y1A y1C ((2 : Int) : Int).toNat 1) (seg y1 (2 : Int) 5).length (y1C - ((2 : Int) : Int).toNat), .int .i64 0]) rfl rfl rfl Tryz.call118) (R_mount_numbers (seg y1 (2 : Int) 5) 0 _ (segA y1A y1C ((2 : Int) : Int).toNat 1) (y1C - ((2 : Int) : Int).toNat) (View.sub (hs.ownView 0 rfl) hp1) _ h) (fun v a w' hf hr => ?_)
        obtain ⟨y3, y3A, y3C, y4, rfl, h2, hs2⟩ := hr
        replace h := h2; replace hs := hs.call hs2; clear h2 hs2
        refine S.val hf hs (v := .tuple #[.slice y3A y3.length y3C, .bool y4]) rfl rfl rfl (V.pure rfl) (fun a hf => ?_)
        refine S.val hf hs (v := .slice y3A y3.length y3C) rfl rfl rfl (V.pure rfl) (fun a hf => ?_)
        refine S.val hf hs (v := .bool y4) rfl rfl rfl (V.pure rfl) (fun a hf => ?_)
        refine S.val hf hs (v := .slice y3A y3.length y3C) rfl rfl rfl (V.pure rfl) (fun a hf => ?_)
        refine S.val hf hs (v := .bool y4) rfl rfl rfl (V.pure rfl) (fun a hf => ?_)
        refine R.nil ?_
        refine X.then_ ?_
        refine wp_seq ?_
        refine wp_seq ?_
        refine R.list ?_
        refine S.val hf hs (v := .bool y4) rfl rfl rfl (V.pure rfl) (fun a hf => ?_)
        refine S.val hf hs (v := .bool (!y4)) rfl rfl rfl (V.pure rfl) (fun a hf => ?_)
        refine R.nil ?_
        refine X.then_ ?_
        refine C.cond hf (b := !y4) rfl (fun hc => ?_) (fun hc => ?_)
        · replace h := h.1 hc
          refine wp_seq ?_
          refine R.list ?_
          refine S.val hf hs (v := .bool false) rfl rfl rfl (V.pure rfl) (fun a hf => ?_)
          refine R.nil ?_
          refine X.then_ ?_
          refine wp_ret ?_
          refine X.then_ret ?_
          refine X.blk_ret ?_
          refine X.then_ret ?_
          replace hs := hs.front 5 rfl
          replace hs := hs.front 5 rfl
          replace hs := hs.front 5 rfl
          replace hs := hs.front 5 rfl
          replace hs := hs.take 4
          exact L.ret hf (run_results1 Tryz.results58 (ResIs.tmp hf rfl)) ⟨false, b, bA, bC, l, lA, lC, rfl, h, hs⟩
        · replace h := h.2 hc
          refine wp_skip ?_
          refine X.then_ ?_
          refine wp_seq ?_
          refine H.start (S := Sat w0 F0 [hown 3 y3A y3C y3, hown 9 y1A y1C y1, hbox lg 47 [.slice lA l.length lC], hown 57 lA lC l]) mo ?_
          replace hs := hs.drew
          refine H.val hf (hs.mask [true, true, false, false, true, true]) (v := .pointer (some ⟨bg, 0, none⟩)) (i := 0) rfl rfl rfl rfl (by kernel_rfl) (by kernel_rfl) (by kernel_rfl) (V.pure rfl) (fun a hf => ?_)
          refine H.val hf (hs.mask [true, true, false, false, true, true]) (v := .pointer (some ⟨bg, 0, none⟩)) (i := 1) rfl rfl rfl rfl (by kernel_rfl) (by kernel_rfl) (by kernel_rfl) (V.pure rfl) (fun a hf => ?_)
          refine H.val hf (hs.mask [true, true, false, false, true, true]) (v := .pointer (some ⟨bg, 0, none⟩)) (i := 2) rfl rfl rfl rfl (by kernel_rfl) (by kernel_rfl) (by kernel_rfl) (V.pure rfl) (fun a hf => ?_)
          refine H.val hf (hs.mask [true, true, false, false, true, true]) (v := .slice y1A y1.length y1C) (i := 4) rfl rfl rfl rfl (by kernel_rfl) (by kernel_rfl) (by kernel_rfl) (V.pure rfl) (fun a hf => ?_)
          obtain ⟨h0x1, x1, hx1, h⟩ := h
          refine H.val hf (hs.mask [true, true, false, false, true, true]) (v := elemPtr y1A (1 * 1)) (i := 5) rfl rfl rfl rfl (by kernel_rfl) (by kernel_rfl) (by kernel_rfl) (V.index rfl rfl rfl Tryz.runUnderlying74 Tryz.sizeOf9 (hs.ownSome 1 rfl (lt_of_get hx1)) h0x1 (lt_of_get hx1) rfl) (fun a hf => ?_)
          refine H.val hf (hs.mask [true, true, false, false, true, true]) (v := .string (ba x1)) (i := 6) rfl rfl rfl rfl (by kernel_rfl) (by kernel_rfl) (by kernel_rfl) (V.loadOwn (off := 0) 1 rfl hx1 rfl rfl rfl Tryz.isAgg9 Tryz.sizeOf9 rfl rfl) (fun a hf => ?_)
          refine H.val hf (hs.mask [true, true, false, false, true, true]) (v := .slice y3A y3.length y3C) (i := 7) rfl rfl rfl rfl (by kernel_rfl) (by kernel_rfl) (by kernel_rfl) (V.pure rfl) (fun a hf => ?_)
          obtain ⟨h0x2, x2, hx2, h⟩ := h
          refine H.val hf (hs.mask [true, true, false, false, true, true]) (v := elemPtr y3A (0 * 1)) (i := 8) rfl rfl rfl rfl (by kernel_rfl) (by kernel_rfl) (by kernel_rfl) (V.index rfl rfl rfl Tryz.runUnderlying118 Tryz.sizeOf3 (hs.ownSome 0 rfl (lt_of_get hx2)) h0x2 (lt_of_get hx2) rfl) (fun a hf => ?_)
          refine H.val hf (hs.mask [true, true, false, false, true, true]) (v := .int .i64 x2) (i := 9) rfl rfl rfl rfl (by kernel_rfl) (by kernel_rfl) (by kernel_rfl) (V.loadOwn (off := 0) 0 rfl hx2 rfl rfl rfl Tryz.isAgg3 Tryz.sizeOf3 rfl rfl) (fun a hf => ?_)
          refine H.val hf (hs.mask [true, true, false, false, true, true]) (v := .slice y3A y3.length y3C) (i := 10) rfl rfl rfl rfl (by kernel_rfl) (by kernel_rfl) (by kernel_rfl) (V.pure rfl) (fun a hf => ?_)
          obtain ⟨h0x3, x3, hx3, h⟩ := h
          refine H.val hf (hs.mask [true, true, false, false, true, true]) (v := elemPtr y3A (1 * 1)) (i := 11) rfl rfl rfl rfl (by kernel_rfl) (by kernel_rfl) (by kernel_rfl) (V.index rfl rfl rfl Tryz.runUnderlying118 Tryz.sizeOf3 (hs.ownSome 0 rfl (lt_of_get hx3)) h0x3 (lt_of_get hx3) rfl) (fun a hf => ?_)
          refine H.val hf (hs.mask [true, true, false, false, true, true]) (v := .int .i64 x3) (i := 12) rfl rfl rfl rfl (by kernel_rfl) (by kernel_rfl) (by kernel_rfl) (V.loadOwn (off := 0) 0 rfl hx3 rfl rfl rfl Tryz.isAgg3 Tryz.sizeOf3 rfl rfl) (fun a hf => ?_)
          refine H.val hf (hs.mask [true, true, false, false, true, true]) (v := .slice y3A y3.length y3C) (i := 13) rfl rfl rfl rfl (by kernel_rfl) (by kernel_rfl) (by kernel_rfl) (V.pure rfl) (fun a hf => ?_)
          obtain ⟨h0x4, x4, hx4, h⟩ := h
          refine H.val hf (hs.mask [true, true, false, false, true, true]) (v := elemPtr y3A (2 * 1)) (i := 14) rfl rfl rfl rfl (by kernel_rfl) (by kernel_rfl) (by kernel_rfl) (V.index rfl rfl rfl Tryz.runUnderlying118 Tryz.sizeOf3 (hs.ownSome 0 rfl (lt_of_get hx4)) h0x4 (lt_of_get hx4) rfl) (fun a hf => ?_)
          refine H.val hf (hs.mask [true, true, false, false, true, true]) (v := .int .i64 x4) (i := 15) rfl rfl rfl rfl (by kernel_rfl) (by kernel_rfl) (by kernel_rfl) (V.loadOwn (off := 0) 0 rfl hx4 rfl rfl rfl Tryz.isAgg3 Tryz.sizeOf3 rfl rfl) (fun a hf => ?_)
          refine H.val hf (hs.mask [true, true, false, false, true, true]) (v := .slice y1A y1.length y1C) (i := 16) rfl rfl rfl rfl (by kernel_rfl) (by kernel_rfl) (by kernel_rfl) (V.pure rfl) (fun a hf => ?_)
          obtain ⟨h0x5, x5, hx5, h⟩ := h
          refine H.val hf (hs.mask [true, true, false, false, true, true]) (v := elemPtr y1A (5 * 1)) (i := 17) rfl rfl rfl rfl (by kernel_rfl) (by kernel_rfl) (by kernel_rfl) (V.index rfl rfl rfl Tryz.runUnderlying74 Tryz.sizeOf9 (hs.ownSome 1 rfl (lt_of_get hx5)) h0x5 (lt_of_get hx5) rfl) (fun a hf => ?_)
          refine H.val hf (hs.mask [true, true, false, false, true, true]) (v := .string (ba x5)) (i := 18) rfl rfl rfl rfl (by kernel_rfl) (by kernel_rfl) (by kernel_rfl) (V.loadOwn (off := 0) 1 rfl hx5 rfl rfl rfl Tryz.isAgg9 Tryz.sizeOf9 rfl rfl) (fun a hf => ?_)
          refine H.each2 (i0 := 3) (i1 := 19) rfl rfl (by kernel_rfl) ?_ ?_
          · refine S.val hf hs (v := .slice bA b.length bC) rfl rfl rfl (V.loadBox 2 rfl rfl rfl Tryz.isAgg46 Tryz.sizeOf46 rfl rfl) (fun a hf => ?_)
            refine R.nil ?_
            refine X.then_ ?_
            refine ⟨(hs.mask [true, true, false, false, true, true]), ?_⟩
            refine H.one (i := 19) rfl (by kernel_rfl) ?_
            refine S.val hf hs (v := .agg #[.string (ba x1), .int .i64 x2, .int .i64 x3, .int .i64 x4, .string (ba x5)]) rfl rfl rfl (V.build (places := #[(0, 1), (1, 1), (2, 1), (3, 1), (4, 1)]) rfl Tryz.zeroValue52 Tryz.runUnderlying52 (by intro w; simp [Tryz.sizeOf3, Tryz.sizeOf9]) rfl rfl) (fun a hf => ?_)
            refine R.nil ?_
            refine X.then_ ?_
            refine ⟨(hs.mask [true, true, false, false, true, true]), ?_⟩
            refine H.one (i := 20) rfl (by kernel_rfl) ?_
            refine S.build1 hf hs rfl rfl rfl (α := Body) (⟨x1, x2, x3, x4, x5⟩ : Body) rfl rfl rfl Tryz.runUnderlying46 Tryz.sizeOf52 Tryz.zeroValue52 rfl (by decide) (fun A1 a w hf hs => ?_)
            refine R.nil ?_
            refine X.then_ ?_
            refine ⟨(hs.mask [false, true, true, false, false, true, true]), ?_⟩
            refine H.one (i := 21) rfl (by kernel_rfl) ?_
            obtain ⟨hroom, h⟩ := h
            refine S.appendCells 4 hf hs rfl rfl rfl rfl rfl rfl rfl Tryz.underlying46 info52 rfl hroom ((hs.ownView 0 rfl).some_ (i := 0) (by simp)) (hs.ownView 0 rfl) (fun A2 C1 a w hf hs => ?_)
            replace hs := hs.drop
            refine R.nil ?_
            refine X.then_ ?_
            refine ⟨(hs.mask [true, true, false, false, true, true]), ?_⟩
            refine H.val hf (hs.mask [true, true, false, false, true, true]) (v := .pointer (some ⟨bg, 0, none⟩)) (i := 22) rfl rfl rfl rfl (by kernel_rfl) (by kernel_rfl) (by kernel_rfl) (V.pure rfl) (fun a hf => ?_)
            refine H.one (i := 23) rfl (by kernel_rfl) ?_
            refine S.storeBox 2 hf hs rfl rfl [.slice A2 (b ++ [(⟨x1, x2, x3, x4, x5⟩ : Body)]).length C1] [.slice A2 (b ++ [(⟨x1, x2, x3, x4, x5⟩ : Body)]).length C1] rfl rfl rfl rfl rfl Tryz.sizeOf46 rfl rfl rfl rfl (fun a w hf hs => ?_)
            refine R.nil ?_
            refine X.then_ ?_
            refine ⟨(hs.mask [true, true, false, false, true, true]), ?_⟩
            refine H.done (by kernel_rfl) ?_
            refine X.then_ ?_
            refine wp_seq ?_
            refine R.list ?_
            refine S.val hf hs (v := .bool true) rfl rfl rfl (V.pure rfl) (fun a hf => ?_)
            refine R.nil ?_
            refine X.then_ ?_
            refine wp_ret ?_
            refine X.blk_ret ?_
            refine X.then_ret ?_
            replace hs := hs.front 5 rfl
            replace hs := hs.front 5 rfl
            replace hs := hs.front 5 rfl
            replace hs := hs.front 5 rfl
            replace hs := hs.take 4
            exact L.ret hf (run_results1 Tryz.results58 (ResIs.tmp hf rfl)) ⟨true, (b ++ [(⟨x1, x2, x3, x4, x5⟩ : Body)]), A2, C1, l, lA, lC, rfl, h, hs⟩
          · refine S.val hf hs (v := .agg #[.string (ba x1), .int .i64 x2, .int .i64 x3, .int .i64 x4, .string (ba x5)]) rfl rfl rfl (V.build (places := #[(0, 1), (1, 1), (2, 1), (3, 1), (4, 1)]) rfl Tryz.zeroValue52 Tryz.runUnderlying52 (by intro w; simp [Tryz.sizeOf3, Tryz.sizeOf9]) rfl rfl) (fun a hf => ?_)
            refine R.nil ?_
            refine X.then_ ?_
            refine ⟨(hs.mask [true, true, false, false, true, true]), ?_⟩
            refine H.each2 (i0 := 3) (i1 := 20) rfl rfl (by kernel_rfl) ?_ ?_
            · refine S.val hf hs (v := .slice bA b.length bC) rfl rfl rfl (V.loadBox 2 rfl rfl rfl Tryz.isAgg46 Tryz.sizeOf46 rfl rfl) (fun a hf => ?_)
              refine R.nil ?_
              refine X.then_ ?_
              refine ⟨(hs.mask [true, true, false, false, true, true]), ?_⟩
              refine H.one (i := 20) rfl (by kernel_rfl) ?_
              refine S.build1 hf hs rfl rfl rfl (α := Body) (⟨x1, x2, x3, x4, x5⟩ : Body) rfl rfl rfl Tryz.runUnderlying46 Tryz.sizeOf52 Tryz.zeroValue52 rfl (by decide) (fun A1 a w hf hs => ?_)
              refine R.nil ?_
              refine X.then_ ?_
              refine ⟨(hs.mask [false, true, true, false, false, true, true]), ?_⟩
              refine H.one (i := 21) rfl (by kernel_rfl) ?_
              obtain ⟨hroom, h⟩ := h
              refine S.appendCells 4 hf hs rfl rfl rfl rfl rfl rfl rfl Tryz.underlying46 info52 rfl hroom ((hs.ownView 0 rfl).some_ (i := 0) (by simp)) (hs.ownView 0 rfl) (fun A2 C1 a w hf hs => ?_)
              replace hs := hs.drop
              refine R.nil ?_
              refine X.then_ ?_
              refine ⟨(hs.mask [true, true, false, false, true, true]), ?_⟩
              refine H.val hf (hs.mask [true, true, false, false, true, true]) (v := .pointer (some ⟨bg, 0, none⟩)) (i := 22) rfl rfl rfl rfl (by kernel_rfl) (by kernel_rfl) (by kernel_rfl) (V.pure rfl) (fun a hf => ?_)
              refine H.one (i := 23) rfl (by kernel_rfl) ?_
              refine S.storeBox 2 hf hs rfl rfl [.slice A2 (b ++ [(⟨x1, x2, x3, x4, x5⟩ : Body)]).length C1] [.slice A2 (b ++ [(⟨x1, x2, x3, x4, x5⟩ : Body)]).length C1] rfl rfl rfl rfl rfl Tryz.sizeOf46 rfl rfl rfl rfl (fun a w hf hs => ?_)
              refine R.nil ?_
              refine X.then_ ?_
              refine ⟨(hs.mask [true, true, false, false, true, true]), ?_⟩
              refine H.done (by kernel_rfl) ?_
              refine X.then_ ?_
              refine wp_seq ?_
              refine R.list ?_
              refine S.val hf hs (v := .bool true) rfl rfl rfl (V.pure rfl) (fun a hf => ?_)
              refine R.nil ?_
              refine X.then_ ?_
              refine wp_ret ?_
              refine X.blk_ret ?_
              refine X.then_ret ?_
              replace hs := hs.front 5 rfl
              replace hs := hs.front 5 rfl
              replace hs := hs.front 5 rfl
              replace hs := hs.front 5 rfl
              replace hs := hs.take 4
              exact L.ret hf (run_results1 Tryz.results58 (ResIs.tmp hf rfl)) ⟨true, (b ++ [(⟨x1, x2, x3, x4, x5⟩ : Body)]), A2, C1, l, lA, lC, rfl, h, hs⟩
            · refine S.build1 hf hs rfl rfl rfl (α := Body) (⟨x1, x2, x3, x4, x5⟩ : Body) rfl rfl rfl Tryz.runUnderlying46 Tryz.sizeOf52 Tryz.zeroValue52 rfl (by decide) (fun A1 a w hf hs => ?_)
              refine R.nil ?_
              refine X.then_ ?_
              refine ⟨(hs.mask [false, true, true, false, false, true, true]), ?_⟩
              refine H.one (i := 3) rfl (by kernel_rfl) ?_
              refine S.val hf hs (v := .slice bA b.length bC) rfl rfl rfl (V.loadBox 3 rfl rfl rfl Tryz.isAgg46 Tryz.sizeOf46 rfl rfl) (fun a hf => ?_)
              refine R.nil ?_
              refine X.then_ ?_
              refine ⟨(hs.mask [false, true, true, false, false, true, true]), ?_⟩
              refine H.one (i := 21) rfl (by kernel_rfl) ?_
              obtain ⟨hroom, h⟩ := h
              refine S.appendCells 4 hf hs rfl rfl rfl rfl rfl rfl rfl Tryz.underlying46 info52 rfl hroom ((hs.ownView 0 rfl).some_ (i := 0) (by simp)) (hs.ownView 0 rfl) (fun A2 C1 a w hf hs => ?_)
              replace hs := hs.drop
              refine R.nil ?_
              refine X.then_ ?_
              refine ⟨(hs.mask [true, true, false, false, true, true]), ?_⟩
              refine H.val hf (hs.mask [true, true, false, false, true, true]) (v := .pointer (some ⟨bg, 0, none⟩)) (i := 22) rfl rfl rfl rfl (by kernel_rfl) (by kernel_rfl) (by kernel_rfl) (V.pure rfl) (fun a hf => ?_)
              refine H.one (i := 23) rfl (by kernel_rfl) ?_
              refine S.storeBox 2 hf hs rfl rfl [.slice A2 (b ++ [(⟨x1, x2, x3, x4, x5⟩ : Body)]).length C1] [.slice A2 (b ++ [(⟨x1, x2, x3, x4, x5⟩ : Body)]).length C1] rfl rfl rfl rfl rfl Tryz.sizeOf46 rfl rfl rfl rfl (fun a w hf hs => ?_)
              refine R.nil ?_
              refine X.then_ ?_
              refine ⟨(hs.mask [true, true, false, false, true, true]), ?_⟩
              refine H.done (by kernel_rfl) ?_
              refine X.then_ ?_
              refine wp_seq ?_
              refine R.list ?_
              refine S.val hf hs (v := .bool true) rfl rfl rfl (V.pure rfl) (fun a hf => ?_)
              refine R.nil ?_
              refine X.then_ ?_
              refine wp_ret ?_
              refine X.blk_ret ?_
              refine X.then_ret ?_
              replace hs := hs.front 5 rfl
              replace hs := hs.front 5 rfl
              replace hs := hs.front 5 rfl
              replace hs := hs.front 5 rfl
              replace hs := hs.take 4
              exact L.ret hf (run_results1 Tryz.results58 (ResIs.tmp hf rfl)) ⟨true, (b ++ [(⟨x1, x2, x3, x4, x5⟩ : Body)]), A2, C1, l, lA, lC, rfl, h, hs⟩
      · replace h := h.2 hc
        refine wp_seq ?_
        refine C.cut (J := fun a w => ∃ (c2 : Bool), M_mount_readLine_k2 b l Q y1 c2 ∧ FrOk 122 [(1, .pointer (some ⟨lg, 0, none⟩)), (7, .slice y1A y1.length y1C), (64, .bool c2)] a ∧ Sat w0 F0 [hown 9 y1A y1C y1, hbox bg 46 [.slice bA b.length bC], hown 52 bA bC b, hbox lg 47 [.slice lA l.length lC], hown 57 lA lC l] w) ?_ ?_
        · rintro a w ⟨c2, h, hf, hs⟩
          unfold M_mount_readLine_k2 at h
          refine C.cond hf (b := c2) rfl (fun hc => ?_) (fun hc => ?_)
          · replace h := h.1 hc
            refine wp_seq ?_
            refine R.list ?_
            refine S.val hf hs (v := .slice y1A y1.length y1C) rfl rfl rfl (V.pure rfl) (fun a hf => ?_)
            obtain ⟨hp2, h⟩ := h
            refine S.val hf hs (v := .slice (segA y1A y1C ((3 : Int) : Int).toNat 1) (seg y1 (3 : Int) 6).length (y1C - ((3 : Int) : Int).toNat)) rfl rfl rfl (V.slice rfl rfl rfl rfl Tryz.runUnderlying74 Tryz.sizeOf9 rfl rfl hp2 (hs.ownView 0 rfl).cap (seg_length (by have := hp2.2.2; omega))) (fun a hf => ?_)
            refine S.call hf rfl rfl rfl (call_fn (vs := [.slice (segA y1A y1C ((3 : Int) : Int).toNat 1) (seg y1 (3 : Int) 6).length (y1C - ((3 : Int) : Int).toNat), .int .i64 2]) rfl rfl rfl Tryz.call118) (R_mount_numbers (seg y1 (3 : Int) 6) 2 _ (segA y1A y1C ((3 : Int) : Int).toNat 1) (y1C - ((3 : Int) : Int).toNat) (View.sub (hs.ownView 0 rfl) hp2) _ h) (fun v a w' hf hr => ?_)
            obtain ⟨y5, y5A, y5C, y6, rfl, h2, hs2⟩ := hr
            replace h := h2; replace hs := hs.call hs2; clear h2 hs2
            refine S.val hf hs (v := .tuple #[.slice y5A y5.length y5C, .bool y6]) rfl rfl rfl (V.pure rfl) (fun a hf => ?_)
            refine S.val hf hs (v := .slice y5A y5.length y5C) rfl rfl rfl (V.pure rfl) (fun a hf => ?_)
            refine S.val hf hs (v := .bool y6) rfl rfl rfl (V.pure rfl) (fun a hf => ?_)
            refine S.val hf hs (v := .slice y5A y5.length y5C) rfl rfl rfl (V.pure rfl) (fun a hf => ?_)
            refine S.val hf hs (v := .bool y6) rfl rfl rfl (V.pure rfl) (fun a hf => ?_)
            refine R.nil ?_
            refine X.then_ ?_
            refine wp_seq ?_
            refine wp_seq ?_
            refine R.list ?_
            refine S.val hf hs (v := .bool y6) rfl rfl rfl (V.pure rfl) (fun a hf => ?_)
            refine S.val hf hs (v := .bool (!y6)) rfl rfl rfl (V.pure rfl) (fun a hf => ?_)
            refine R.nil ?_
            refine X.then_ ?_
            refine C.cond hf (b := !y6) rfl (fun hc => ?_) (fun hc => ?_)
            · replace h := h.1 hc
              refine wp_seq ?_
              refine R.list ?_
              refine S.val hf hs (v := .bool false) rfl rfl rfl (V.pure rfl) (fun a hf => ?_)
              refine R.nil ?_
              refine X.then_ ?_
              refine wp_ret ?_
              refine X.then_ret ?_
              refine X.blk_ret ?_
              refine X.then_ret ?_
              replace hs := hs.front 5 rfl
              replace hs := hs.front 5 rfl
              replace hs := hs.front 5 rfl
              replace hs := hs.front 5 rfl
              replace hs := hs.take 4
              exact L.ret hf (run_results1 Tryz.results58 (ResIs.tmp hf rfl)) ⟨false, b, bA, bC, l, lA, lC, rfl, h, hs⟩
            · replace h := h.2 hc
              refine wp_skip ?_
              refine X.then_ ?_
              refine wp_seq ?_
              refine H.start (S := Sat w0 F0 [hown 3 y5A y5C y5, hown 9 y1A y1C y1, hbox bg 46 [.slice bA b.length bC], hown 52 bA bC b]) mo ?_
              replace hs := hs.drew
              refine H.val hf (hs.mask [true, true, true, true, false, false]) (v := .pointer (some ⟨lg, 0, none⟩)) (i := 0) rfl rfl rfl rfl (by kernel_rfl) (by kernel_rfl) (by kernel_rfl) (V.pure rfl) (fun a hf => ?_)
              refine H.val hf (hs.mask [true, true, true, true, false, false]) (v := .pointer (some ⟨lg, 0, none⟩)) (i := 1) rfl rfl rfl rfl (by kernel_rfl) (by kernel_rfl) (by kernel_rfl) (V.pure rfl) (fun a hf => ?_)
              refine H.val hf (hs.mask [true, true, true, true, false, false]) (v := .pointer (some ⟨lg, 0, none⟩)) (i := 2) rfl rfl rfl rfl (by kernel_rfl) (by kernel_rfl) (by kernel_rfl) (V.pure rfl) (fun a hf => ?_)
              refine H.val hf (hs.mask [true, true, true, true, false, false]) (v := .slice y1A y1.length y1C) (i := 4) rfl rfl rfl rfl (by kernel_rfl) (by kernel_rfl) (by kernel_rfl) (V.pure rfl) (fun a hf => ?_)
              obtain ⟨h0x6, x6, hx6, h⟩ := h
              refine H.val hf (hs.mask [true, true, true, true, false, false]) (v := elemPtr y1A (1 * 1)) (i := 5) rfl rfl rfl rfl (by kernel_rfl) (by kernel_rfl) (by kernel_rfl) (V.index rfl rfl rfl Tryz.runUnderlying74 Tryz.sizeOf9 (hs.ownSome 1 rfl (lt_of_get hx6)) h0x6 (lt_of_get hx6) rfl) (fun a hf => ?_)
              refine H.val hf (hs.mask [true, true, true, true, false, false]) (v := .string (ba x6)) (i := 6) rfl rfl rfl rfl (by kernel_rfl) (by kernel_rfl) (by kernel_rfl) (V.loadOwn (off := 0) 1 rfl hx6 rfl rfl rfl Tryz.isAgg9 Tryz.sizeOf9 rfl rfl) (fun a hf => ?_)
              refine H.val hf (hs.mask [true, true, true, true, false, false]) (v := .slice y1A y1.length y1C) (i := 7) rfl rfl rfl rfl (by kernel_rfl) (by kernel_rfl) (by kernel_rfl) (V.pure rfl) (fun a hf => ?_)
              obtain ⟨h0x7, x7, hx7, h⟩ := h
              refine H.val hf (hs.mask [true, true, true, true, false, false]) (v := elemPtr y1A (2 * 1)) (i := 8) rfl rfl rfl rfl (by kernel_rfl) (by kernel_rfl) (by kernel_rfl) (V.index rfl rfl rfl Tryz.runUnderlying74 Tryz.sizeOf9 (hs.ownSome 1 rfl (lt_of_get hx7)) h0x7 (lt_of_get hx7) rfl) (fun a hf => ?_)
              refine H.val hf (hs.mask [true, true, true, true, false, false]) (v := .string (ba x7)) (i := 9) rfl rfl rfl rfl (by kernel_rfl) (by kernel_rfl) (by kernel_rfl) (V.loadOwn (off := 0) 1 rfl hx7 rfl rfl rfl Tryz.isAgg9 Tryz.sizeOf9 rfl rfl) (fun a hf => ?_)
              refine H.val hf (hs.mask [true, true, true, true, false, false]) (v := .slice y5A y5.length y5C) (i := 10) rfl rfl rfl rfl (by kernel_rfl) (by kernel_rfl) (by kernel_rfl) (V.pure rfl) (fun a hf => ?_)
              obtain ⟨h0x8, x8, hx8, h⟩ := h
              refine H.val hf (hs.mask [true, true, true, true, false, false]) (v := elemPtr y5A (0 * 1)) (i := 11) rfl rfl rfl rfl (by kernel_rfl) (by kernel_rfl) (by kernel_rfl) (V.index rfl rfl rfl Tryz.runUnderlying118 Tryz.sizeOf3 (hs.ownSome 0 rfl (lt_of_get hx8)) h0x8 (lt_of_get hx8) rfl) (fun a hf => ?_)
              refine H.val hf (hs.mask [true, true, true, true, false, false]) (v := .int .i64 x8) (i := 12) rfl rfl rfl rfl (by kernel_rfl) (by kernel_rfl) (by kernel_rfl) (V.loadOwn (off := 0) 0 rfl hx8 rfl rfl rfl Tryz.isAgg3 Tryz.sizeOf3 rfl rfl) (fun a hf => ?_)
              refine H.val hf (hs.mask [true, true, true, true, false, false]) (v := .slice y5A y5.length y5C) (i := 13) rfl rfl rfl rfl (by kernel_rfl) (by kernel_rfl) (by kernel_rfl) (V.pure rfl) (fun a hf => ?_)
              obtain ⟨h0x9, x9, hx9, h⟩ := h
              refine H.val hf (hs.mask [true, true, true, true, false, false]) (v := elemPtr y5A (1 * 1)) (i := 14) rfl rfl rfl rfl (by kernel_rfl) (by kernel_rfl) (by kernel_rfl) (V.index rfl rfl rfl Tryz.runUnderlying118 Tryz.sizeOf3 (hs.ownSome 0 rfl (lt_of_get hx9)) h0x9 (lt_of_get hx9) rfl) (fun a hf => ?_)
              refine H.val hf (hs.mask [true, true, true, true, false, false]) (v := .int .i64 x9) (i := 15) rfl rfl rfl rfl (by kernel_rfl) (by kernel_rfl) (by kernel_rfl) (V.loadOwn (off := 0) 0 rfl hx9 rfl rfl rfl Tryz.isAgg3 Tryz.sizeOf3 rfl rfl) (fun a hf => ?_)
              refine H.val hf (hs.mask [true, true, true, true, false, false]) (v := .slice y5A y5.length y5C) (i := 17) rfl rfl rfl rfl (by kernel_rfl) (by kernel_rfl) (by kernel_rfl) (V.pure rfl) (fun a hf => ?_)
              obtain ⟨h0x10, x10, hx10, h⟩ := h
              refine H.val hf (hs.mask [true, true, true, true, false, false]) (v := elemPtr y5A (2 * 1)) (i := 18) rfl rfl rfl rfl (by kernel_rfl) (by kernel_rfl) (by kernel_rfl) (V.index rfl rfl rfl Tryz.runUnderlying118 Tryz.sizeOf3 (hs.ownSome 0 rfl (lt_of_get hx10)) h0x10 (lt_of_get hx10) rfl) (fun a hf => ?_)
              refine H.val hf (hs.mask [true, true, true, true, false, false]) (v := .int .i64 x10) (i := 19) rfl rfl rfl rfl (by kernel_rfl) (by kernel_rfl) (by kernel_rfl) (V.loadOwn (off := 0) 0 rfl hx10 rfl rfl rfl Tryz.isAgg3 Tryz.sizeOf3 rfl rfl) (fun a hf => ?_)
              refine H.val hf (hs.mask [true, true, true, true, false, false]) (v := .slice y1A y1.length y1C) (i := 20) rfl rfl rfl rfl (by kernel_rfl) (by kernel_rfl) (by kernel_rfl) (V.pure rfl) (fun a hf => ?_)
              obtain ⟨h0x11, x11, hx11, h⟩ := h
              refine H.val hf (hs.mask [true, true, true, true, false, false]) (v := elemPtr y1A (6 * 1)) (i := 21) rfl rfl rfl rfl (by kernel_rfl) (by kernel_rfl) (by kernel_rfl) (V.index rfl rfl rfl Tryz.runUnderlying74 Tryz.sizeOf9 (hs.ownSome 1 rfl (lt_of_get hx11)) h0x11 (lt_of_get hx11) rfl) (fun a hf => ?_)
              refine H.val hf (hs.mask [true, true, true, true, false, false]) (v := .string (ba x11)) (i := 22) rfl rfl rfl rfl (by kernel_rfl) (by kernel_rfl) (by kernel_rfl) (V.loadOwn (off := 0) 1 rfl hx11 rfl rfl rfl Tryz.isAgg9 Tryz.sizeOf9 rfl rfl) (fun a hf => ?_)
              refine H.val hf (hs.mask [true, true, true, true, false, false]) (v := .bool (x11 == [100, 111, 119, 110])) (i := 23) rfl rfl rfl rfl (by kernel_rfl) (by kernel_rfl) (by kernel_rfl) (V.strCmp (x11 == [100, 111, 119, 110]) rfl rfl rfl rfl) (fun a hf => ?_)
              refine H.each2 (i0 := 3) (i1 := 16) rfl rfl (by kernel_rfl) ?_ ?_
              · refine S.val hf hs (v := .slice lA l.length lC) rfl rfl rfl (V.loadBox 4 rfl rfl rfl Tryz.isAgg47 Tryz.sizeOf47 rfl rfl) (fun a hf => ?_)
                refine R.nil ?_
                refine X.then_ ?_
                refine ⟨(hs.mask [true, true, true, true, false, false]), ?_⟩
                refine H.one (i := 16) rfl (by kernel_rfl) ?_
                refine S.val hf hs (v := .agg #[.int .i64 x8, .int .i64 x9]) rfl rfl rfl (V.build (places := #[(0, 1), (1, 1)]) rfl Tryz.zeroValue55 Tryz.runUnderlying55 (by intro w; simp [Tryz.sizeOf3]) rfl rfl) (fun a hf => ?_)
                refine R.nil ?_
                refine X.then_ ?_
                refine ⟨(hs.mask [true, true, true, true, false, false]), ?_⟩
                refine H.one (i := 24) rfl (by kernel_rfl) ?_
                refine S.val hf hs (v := .agg #[.string (ba x6), .string (ba x7), .int .i64 x8, .int .i64 x9, .int .i64 x10, .bool (x11 == [100, 111, 119, 110])]) rfl rfl rfl (V.build (places := #[(0, 1), (1, 1), (2, 2), (4, 1), (5, 1)]) rfl Tryz.zeroValue57 Tryz.runUnderlying57 (by intro w; simp [Tryz.sizeOf3, Tryz.sizeOf4, Tryz.sizeOf55, Tryz.sizeOf9]) rfl (by kernel_rfl)) (fun a hf => ?_)
                refine R.nil ?_
                refine X.then_ ?_
                refine ⟨(hs.mask [true, true, true, true, false, false]), ?_⟩
                refine H.one (i := 25) rfl (by kernel_rfl) ?_
                refine S.build1 hf hs rfl rfl rfl (α := Place) (⟨x6, x7, (⟨x8, x9⟩ : Point), x10, x11 == [100, 111, 119, 110]⟩ : Place) rfl rfl rfl Tryz.runUnderlying47 Tryz.sizeOf57 Tryz.zeroValue57 rfl (by decide) (fun A3 a w hf hs => ?_)
                refine R.nil ?_
                refine X.then_ ?_
                refine ⟨(hs.mask [false, true, true, true, true, false, false]), ?_⟩
                refine H.one (i := 26) rfl (by kernel_rfl) ?_
                obtain ⟨hroom, h⟩ := h
                refine S.appendCells 6 hf hs rfl rfl rfl rfl rfl rfl rfl Tryz.underlying47 info57 rfl hroom ((hs.ownView 0 rfl).some_ (i := 0) (by simp)) (hs.ownView 0 rfl) (fun A4 C2 a w hf hs => ?_)
                replace hs := hs.drop
                refine R.nil ?_
                refine X.then_ ?_
                refine ⟨(hs.mask [true, true, true, true, false, false]), ?_⟩
                refine H.val hf (hs.mask [true, true, true, true, false, false]) (v := .pointer (some ⟨lg, 0, none⟩)) (i := 27) rfl rfl rfl rfl (by kernel_rfl) (by kernel_rfl) (by kernel_rfl) (V.pure rfl) (fun a hf => ?_)
                refine H.one (i := 28) rfl (by kernel_rfl) ?_
                refine S.storeBox 4 hf hs rfl rfl [.slice A4 (l ++ [(⟨x6, x7, (⟨x8, x9⟩ : Point), x10, x11 == [100, 111, 119, 110]⟩ : Place)]).length C2] [.slice A4 (l ++ [(⟨x6, x7, (⟨x8, x9⟩ : Point), x10, x11 == [100, 111, 119, 110]⟩ : Place)]).length C2] rfl rfl rfl rfl rfl Tryz.sizeOf47 rfl rfl rfl rfl (fun a w hf hs => ?_)
                refine R.nil ?_
                refine X.then_ ?_
                refine ⟨(hs.mask [true, true, true, true, false, false]), ?_⟩
                refine H.done (by kernel_rfl) ?_
                refine X.then_ ?_
                refine wp_seq ?_
                refine R.list ?_
                refine S.val hf hs (v := .bool true) rfl rfl rfl (V.pure rfl) (fun a hf => ?_)
                refine R.nil ?_
                refine X.then_ ?_
                refine wp_ret ?_
                refine X.blk_ret ?_
                refine X.then_ret ?_
                replace hs := hs.front 5 rfl
                replace hs := hs.front 5 rfl
                replace hs := hs.front 5 rfl
                replace hs := hs.front 5 rfl
                replace hs := hs.take 4
                exact L.ret hf (run_results1 Tryz.results58 (ResIs.tmp hf rfl)) ⟨true, b, bA, bC, (l ++ [(⟨x6, x7, (⟨x8, x9⟩ : Point), x10, x11 == [100, 111, 119, 110]⟩ : Place)]), A4, C2, rfl, h, hs⟩
              · refine S.val hf hs (v := .agg #[.int .i64 x8, .int .i64 x9]) rfl rfl rfl (V.build (places := #[(0, 1), (1, 1)]) rfl Tryz.zeroValue55 Tryz.runUnderlying55 (by intro w; simp [Tryz.sizeOf3]) rfl rfl) (fun a hf => ?_)
                refine R.nil ?_
                refine X.then_ ?_
                refine ⟨(hs.mask [true, true, true, true, false, false]), ?_⟩
                refine H.each2 (i0 := 3) (i1 := 24) rfl rfl (by kernel_rfl) ?_ ?_
                · refine S.val hf hs (v := .slice lA l.length lC) rfl rfl rfl (V.loadBox 4 rfl rfl rfl Tryz.isAgg47 Tryz.sizeOf47 rfl rfl) (fun a hf => ?_)
                  refine R.nil ?_
                  refine X.then_ ?_
                  refine ⟨(hs.mask [true, true, true, true, false, false]), ?_⟩
                  refine H.one (i := 24) rfl (by kernel_rfl) ?_
                  refine S.val hf hs (v := .agg #[.string (ba x6), .string (ba x7), .int .i64 x8, .int .i64 x9, .int .i64 x10, .bool (x11 == [100, 111, 119, 110])]) rfl rfl rfl (V.build (places := #[(0, 1), (1, 1), (2, 2), (4, 1), (5, 1)]) rfl Tryz.zeroValue57 Tryz.runUnderlying57 (by intro w; simp [Tryz.sizeOf3, Tryz.sizeOf4, Tryz.sizeOf55, Tryz.sizeOf9]) rfl (by kernel_rfl)) (fun a hf => ?_)
                  refine R.nil ?_
                  refine X.then_ ?_
                  refine ⟨(hs.mask [true, true, true, true, false, false]), ?_⟩
                  refine H.one (i := 25) rfl (by kernel_rfl) ?_
                  refine S.build1 hf hs rfl rfl rfl (α := Place) (⟨x6, x7, (⟨x8, x9⟩ : Point), x10, x11 == [100, 111, 119, 110]⟩ : Place) rfl rfl rfl Tryz.runUnderlying47 Tryz.sizeOf57 Tryz.zeroValue57 rfl (by decide) (fun A3 a w hf hs => ?_)
                  refine R.nil ?_
                  refine X.then_ ?_
                  refine ⟨(hs.mask [false, true, true, true, true, false, false]), ?_⟩
                  refine H.one (i := 26) rfl (by kernel_rfl) ?_
                  obtain ⟨hroom, h⟩ := h
                  refine S.appendCells 6 hf hs rfl rfl rfl rfl rfl rfl rfl Tryz.underlying47 info57 rfl hroom ((hs.ownView 0 rfl).some_ (i := 0) (by simp)) (hs.ownView 0 rfl) (fun A4 C2 a w hf hs => ?_)
                  replace hs := hs.drop
                  refine R.nil ?_
                  refine X.then_ ?_
                  refine ⟨(hs.mask [true, true, true, true, false, false]), ?_⟩
                  refine H.val hf (hs.mask [true, true, true, true, false, false]) (v := .pointer (some ⟨lg, 0, none⟩)) (i := 27) rfl rfl rfl rfl (by kernel_rfl) (by kernel_rfl) (by kernel_rfl) (V.pure rfl) (fun a hf => ?_)
                  refine H.one (i := 28) rfl (by kernel_rfl) ?_
                  refine S.storeBox 4 hf hs rfl rfl [.slice A4 (l ++ [(⟨x6, x7, (⟨x8, x9⟩ : Point), x10, x11 == [100, 111, 119, 110]⟩ : Place)]).length C2] [.slice A4 (l ++ [(⟨x6, x7, (⟨x8, x9⟩ : Point), x10, x11 == [100, 111, 119, 110]⟩ : Place)]).length C2] rfl rfl rfl rfl rfl Tryz.sizeOf47 rfl rfl rfl rfl (fun a w hf hs => ?_)
                  refine R.nil ?_
                  refine X.then_ ?_
                  refine ⟨(hs.mask [true, true, true, true, false, false]), ?_⟩
                  refine H.done (by kernel_rfl) ?_
                  refine X.then_ ?_
                  refine wp_seq ?_
                  refine R.list ?_
                  refine S.val hf hs (v := .bool true) rfl rfl rfl (V.pure rfl) (fun a hf => ?_)
                  refine R.nil ?_
                  refine X.then_ ?_
                  refine wp_ret ?_
                  refine X.blk_ret ?_
                  refine X.then_ret ?_
                  replace hs := hs.front 5 rfl
                  replace hs := hs.front 5 rfl
                  replace hs := hs.front 5 rfl
                  replace hs := hs.front 5 rfl
                  replace hs := hs.take 4
                  exact L.ret hf (run_results1 Tryz.results58 (ResIs.tmp hf rfl)) ⟨true, b, bA, bC, (l ++ [(⟨x6, x7, (⟨x8, x9⟩ : Point), x10, x11 == [100, 111, 119, 110]⟩ : Place)]), A4, C2, rfl, h, hs⟩
                · refine S.val hf hs (v := .agg #[.string (ba x6), .string (ba x7), .int .i64 x8, .int .i64 x9, .int .i64 x10, .bool (x11 == [100, 111, 119, 110])]) rfl rfl rfl (V.build (places := #[(0, 1), (1, 1), (2, 2), (4, 1), (5, 1)]) rfl Tryz.zeroValue57 Tryz.runUnderlying57 (by intro w; simp [Tryz.sizeOf3, Tryz.sizeOf4, Tryz.sizeOf55, Tryz.sizeOf9]) rfl (by kernel_rfl)) (fun a hf => ?_)
                  refine R.nil ?_
                  refine X.then_ ?_
                  refine ⟨(hs.mask [true, true, true, true, false, false]), ?_⟩
                  refine H.each2 (i0 := 3) (i1 := 25) rfl rfl (by kernel_rfl) ?_ ?_
                  · refine S.val hf hs (v := .slice lA l.length lC) rfl rfl rfl (V.loadBox 4 rfl rfl rfl Tryz.isAgg47 Tryz.sizeOf47 rfl rfl) (fun a hf => ?_)
                    refine R.nil ?_
                    refine X.then_ ?_
                    refine ⟨(hs.mask [true, true, true, true, false, false]), ?_⟩
                    refine H.one (i := 25) rfl (by kernel_rfl) ?_
                    refine S.build1 hf hs rfl rfl rfl (α := Place) (⟨x6, x7, (⟨x8, x9⟩ : Point), x10, x11 == [100, 111, 119, 110]⟩ : Place) rfl rfl rfl Tryz.runUnderlying47 Tryz.sizeOf57 Tryz.zeroValue57 rfl (by decide) (fun A3 a w hf hs => ?_)
                    refine R.nil ?_
                    refine X.then_ ?_
                    refine ⟨(hs.mask [false, true, true, true, true, false, false]), ?_⟩
                    refine H.one (i := 26) rfl (by kernel_rfl) ?_
                    obtain ⟨hroom, h⟩ := h
                    refine S.appendCells 6 hf hs rfl rfl rfl rfl rfl rfl rfl Tryz.underlying47 info57 rfl hroom ((hs.ownView 0 rfl).some_ (i := 0) (by simp)) (hs.ownView 0 rfl) (fun A4 C2 a w hf hs => ?_)
                    replace hs := hs.drop
                    refine R.nil ?_
                    refine X.then_ ?_
                    refine ⟨(hs.mask [true, true, true, true, false, false]), ?_⟩
                    refine H.val hf (hs.mask [true, true, true, true, false, false]) (v := .pointer (some ⟨lg, 0, none⟩)) (i := 27) rfl rfl rfl rfl (by kernel_rfl) (by kernel_rfl) (by kernel_rfl) (V.pure rfl) (fun a hf => ?_)
                    refine H.one (i := 28) rfl (by kernel_rfl) ?_
                    refine S.storeBox 4 hf hs rfl rfl [.slice A4 (l ++ [(⟨x6, x7, (⟨x8, x9⟩ : Point), x10, x11 == [100, 111, 119, 110]⟩ : Place)]).length C2] [.slice A4 (l ++ [(⟨x6, x7, (⟨x8, x9⟩ : Point), x10, x11 == [100, 111, 119, 110]⟩ : Place)]).length C2] rfl rfl rfl rfl rfl Tryz.sizeOf47 rfl rfl rfl rfl (fun a w hf hs => ?_)
                    refine R.nil ?_
                    refine X.then_ ?_
                    refine ⟨(hs.mask [true, true, true, true, false, false]), ?_⟩
                    refine H.done (by kernel_rfl) ?_
                    refine X.then_ ?_
                    refine wp_seq ?_
                    refine R.list ?_
                    refine S.val hf hs (v := .bool true) rfl rfl rfl (V.pure rfl) (fun a hf => ?_)
                    refine R.nil ?_
                    refine X.then_ ?_
                    refine wp_ret ?_
                    refine X.blk_ret ?_
                    refine X.then_ret ?_
                    replace hs := hs.front 5 rfl
                    replace hs := hs.front 5 rfl
                    replace hs := hs.front 5 rfl
                    replace hs := hs.front 5 rfl
                    replace hs := hs.take 4
                    exact L.ret hf (run_results1 Tryz.results58 (ResIs.tmp hf rfl)) ⟨true, b, bA, bC, (l ++ [(⟨x6, x7, (⟨x8, x9⟩ : Point), x10, x11 == [100, 111, 119, 110]⟩ : Place)]), A4, C2, rfl, h, hs⟩
                  · refine S.build1 hf hs rfl rfl rfl (α := Place) (⟨x6, x7, (⟨x8, x9⟩ : Point), x10, x11 == [100, 111, 119, 110]⟩ : Place) rfl rfl rfl Tryz.runUnderlying47 Tryz.sizeOf57 Tryz.zeroValue57 rfl (by decide) (fun A3 a w hf hs => ?_)
                    refine R.nil ?_
                    refine X.then_ ?_
                    refine ⟨(hs.mask [false, true, true, true, true, false, false]), ?_⟩
                    refine H.one (i := 3) rfl (by kernel_rfl) ?_
                    refine S.val hf hs (v := .slice lA l.length lC) rfl rfl rfl (V.loadBox 5 rfl rfl rfl Tryz.isAgg47 Tryz.sizeOf47 rfl rfl) (fun a hf => ?_)
                    refine R.nil ?_
                    refine X.then_ ?_
                    refine ⟨(hs.mask [false, true, true, true, true, false, false]), ?_⟩
                    refine H.one (i := 26) rfl (by kernel_rfl) ?_
                    obtain ⟨hroom, h⟩ := h
                    refine S.appendCells 6 hf hs rfl rfl rfl rfl rfl rfl rfl Tryz.underlying47 info57 rfl hroom ((hs.ownView 0 rfl).some_ (i := 0) (by simp)) (hs.ownView 0 rfl) (fun A4 C2 a w hf hs => ?_)
                    replace hs := hs.drop
                    refine R.nil ?_
                    refine X.then_ ?_
                    refine ⟨(hs.mask [true, true, true, true, false, false]), ?_⟩
                    refine H.val hf (hs.mask [true, true, true, true, false, false]) (v := .pointer (some ⟨lg, 0, none⟩)) (i := 27) rfl rfl rfl rfl (by kernel_rfl) (by kernel_rfl) (by kernel_rfl) (V.pure rfl) (fun a hf => ?_)
                    refine H.one (i := 28) rfl (by kernel_rfl) ?_
                    refine S.storeBox 4 hf hs rfl rfl [.slice A4 (l ++ [(⟨x6, x7, (⟨x8, x9⟩ : Point), x10, x11 == [100, 111, 119, 110]⟩ : Place)]).length C2] [.slice A4 (l ++ [(⟨x6, x7, (⟨x8, x9⟩ : Point), x10, x11 == [100, 111, 119, 110]⟩ : Place)]).length C2] rfl rfl rfl rfl rfl Tryz.sizeOf47 rfl rfl rfl rfl (fun a w hf hs => ?_)
                    refine R.nil ?_
                    refine X.then_ ?_
                    refine ⟨(hs.mask [true, true, true, true, false, false]), ?_⟩
                    refine H.done (by kernel_rfl) ?_
                    refine X.then_ ?_
                    refine wp_seq ?_
                    refine R.list ?_
                    refine S.val hf hs (v := .bool true) rfl rfl rfl (V.pure rfl) (fun a hf => ?_)
                    refine R.nil ?_
                    refine X.then_ ?_
                    refine wp_ret ?_
                    refine X.blk_ret ?_
                    refine X.then_ret ?_
                    replace hs := hs.front 5 rfl
                    replace hs := hs.front 5 rfl
                    replace hs := hs.front 5 rfl
                    replace hs := hs.front 5 rfl
                    replace hs := hs.take 4
                    exact L.ret hf (run_results1 Tryz.results58 (ResIs.tmp hf rfl)) ⟨true, b, bA, bC, (l ++ [(⟨x6, x7, (⟨x8, x9⟩ : Point), x10, x11 == [100, 111, 119, 110]⟩ : Place)]), A4, C2, rfl, h, hs⟩
          · replace h := h.2 hc
            refine wp_skip ?_
            refine X.blk ?_
            refine X.then_ ?_
            refine wp_seq ?_
            refine R.list ?_
            refine S.val hf hs (v := .bool false) rfl rfl rfl (V.pure rfl) (fun a hf => ?_)
            refine R.nil ?_
            refine X.then_ ?_
            refine wp_ret ?_
            replace hs := hs.front 4 rfl
            replace hs := hs.front 4 rfl
            replace hs := hs.front 4 rfl
            replace hs := hs.front 4 rfl
            replace hs := hs.take 4
            exact L.ret hf (run_results1 Tryz.results58 (ResIs.tmp hf rfl)) ⟨false, b, bA, bC, l, lA, lC, rfl, h, hs⟩
        · skip
          refine R.list ?_
          refine S.val hf hs (v := .slice y1A y1.length y1C) rfl rfl rfl (V.pure rfl) (fun a hf => ?_)
          obtain ⟨h0x12, x12, hx12, h⟩ := h
          refine S.val hf hs (v := elemPtr y1A (0 * 1)) rfl rfl rfl (V.index rfl rfl rfl Tryz.runUnderlying74 Tryz.sizeOf9 (hs.ownSome 0 rfl (lt_of_get hx12)) h0x12 (lt_of_get hx12) rfl) (fun a hf => ?_)
          refine S.val hf hs (v := .string (ba x12)) rfl rfl rfl (V.loadOwn (off := 0) 0 rfl hx12 rfl rfl rfl Tryz.isAgg9 Tryz.sizeOf9 rfl rfl) (fun a hf => ?_)
          refine S.val hf hs (v := .bool (x12 == [112, 108, 97, 99, 101])) rfl rfl rfl (V.strCmp (x12 == [112, 108, 97, 99, 101]) rfl rfl rfl rfl) (fun a hf => ?_)
          refine S.split hf hs (b := x12 == [112, 108, 97, 99, 101]) rfl rfl rfl (V.pure rfl) (fun hc a hf => ?_) (fun hc a hf => ?_)
          · replace h := h.1 hc
            refine S.val hf hs (v := .slice y1A y1.length y1C) rfl rfl rfl (V.pure rfl) (fun a hf => ?_)
            refine S.val hf hs (v := .int .i64 (y1.length : Int)) rfl rfl rfl (V.len rfl rfl Tryz.runUnderlying74) (fun a hf => ?_)
            refine S.val hf hs (v := .bool ((y1.length : Int) == 7)) rfl rfl rfl (V.pure rfl) (fun a hf => ?_)
            refine S.val hf hs (v := .bool ((y1.length : Int) == 7)) rfl rfl rfl (V.pure rfl) (fun a hf => ?_)
            refine S.split hf hs (b := (y1.length : Int) == 7) rfl rfl rfl (V.pure rfl) (fun hc a hf => ?_) (fun hc a hf => ?_)
            · replace h := h.1 hc
              refine S.val hf hs (v := .slice y1A y1.length y1C) rfl rfl rfl (V.pure rfl) (fun a hf => ?_)
              obtain ⟨h0x13, x13, hx13, h⟩ := h
              refine S.val hf hs (v := elemPtr y1A (6 * 1)) rfl rfl rfl (V.index rfl rfl rfl Tryz.runUnderlying74 Tryz.sizeOf9 (hs.ownSome 0 rfl (lt_of_get hx13)) h0x13 (lt_of_get hx13) rfl) (fun a hf => ?_)
              refine S.val hf hs (v := .string (ba x13)) rfl rfl rfl (V.loadOwn (off := 0) 0 rfl hx13 rfl rfl rfl Tryz.isAgg9 Tryz.sizeOf9 rfl rfl) (fun a hf => ?_)
              refine S.val hf hs (v := .bool (x13 == [117, 112])) rfl rfl rfl (V.strCmp (x13 == [117, 112]) rfl rfl rfl rfl) (fun a hf => ?_)
              refine S.split hf hs (b := x13 == [117, 112]) rfl rfl rfl (V.pure rfl) (fun hc a hf => ?_) (fun hc a hf => ?_)
              · replace h := h.1 hc
                refine S.skip hf rfl rfl rfl (fun a hf => ?_)
                refine S.skip hf rfl rfl rfl (fun a hf => ?_)
                refine S.skip hf rfl rfl rfl (fun a hf => ?_)
                refine S.skip hf rfl rfl rfl (fun a hf => ?_)
                refine S.val hf hs (v := .bool true) rfl rfl rfl (V.pure rfl) (fun a hf => ?_)
                refine S.val hf hs (v := .bool true) rfl rfl rfl (V.pure rfl) (fun a hf => ?_)
                refine S.val hf hs (v := .bool true) rfl rfl rfl (V.pure rfl) (fun a hf => ?_)
                refine R.nil ?_
                refine X.then_ ?_
                exact ⟨true, h, (((hf.nil.cons (hf.get 64 _ rfl)).cons (hf.get 7 _ rfl)).cons (hf.get 1 _ rfl)), hs⟩
              · replace h := h.2 hc
                refine S.val hf hs (v := .slice y1A y1.length y1C) rfl rfl rfl (V.pure rfl) (fun a hf => ?_)
                refine S.val hf hs (v := elemPtr y1A (6 * 1)) rfl rfl rfl (V.index rfl rfl rfl Tryz.runUnderlying74 Tryz.sizeOf9 (hs.ownSome 0 rfl (lt_of_get hx13)) h0x13 (lt_of_get hx13) rfl) (fun a hf => ?_)
                refine S.val hf hs (v := .string (ba x13)) rfl rfl rfl (V.loadOwn (off := 0) 0 rfl hx13 rfl rfl rfl Tryz.isAgg9 Tryz.sizeOf9 rfl rfl) (fun a hf => ?_)
                refine S.val hf hs (v := .bool (x13 == [100, 111, 119, 110])) rfl rfl rfl (V.strCmp (x13 == [100, 111, 119, 110]) rfl rfl rfl rfl) (fun a hf => ?_)
                refine S.val hf hs (v := .bool (x13 == [100, 111, 119, 110])) rfl rfl rfl (V.pure rfl) (fun a hf => ?_)
                refine S.val hf hs (v := .bool (x13 == [100, 111, 119, 110])) rfl rfl rfl (V.pure rfl) (fun a hf => ?_)
                refine S.val hf hs (v := .bool (x13 == [100, 111, 119, 110])) rfl rfl rfl (V.pure rfl) (fun a hf => ?_)
                refine R.nil ?_
                refine X.then_ ?_
                exact ⟨(x13 == [100, 111, 119, 110]), h, (((hf.nil.cons (hf.get 64 _ rfl)).cons (hf.get 7 _ rfl)).cons (hf.get 1 _ rfl)), hs⟩
            · replace h := h.2 hc
              refine S.skip hf rfl rfl rfl (fun a hf => ?_)
              refine S.skip hf rfl rfl rfl (fun a hf => ?_)
              refine S.skip hf rfl rfl rfl (fun a hf => ?_)
              refine S.skip hf rfl rfl rfl (fun a hf => ?_)
              refine S.skip hf rfl rfl rfl (fun a hf => ?_)
              refine S.skip hf rfl rfl rfl (fun a hf => ?_)
              refine S.skip hf rfl rfl rfl (fun a hf => ?_)
              refine S.skip hf rfl rfl rfl (fun a hf => ?_)
              refine S.skip hf rfl rfl rfl (fun a hf => ?_)
              refine S.skip hf rfl rfl rfl (fun a hf => ?_)
              refine S.val hf hs (v := .bool false) rfl rfl rfl (V.pure rfl) (fun a hf => ?_)
              refine S.val hf hs (v := .bool false) rfl rfl rfl (V.pure rfl) (fun a hf => ?_)
              refine R.nil ?_
              refine X.then_ ?_
              exact ⟨false, h, (((hf.nil.cons (hf.get 64 _ rfl)).cons (hf.get 7 _ rfl)).cons (hf.get 1 _ rfl)), hs⟩
          · replace h := h.2 hc
            refine S.skip hf rfl rfl rfl (fun a hf => ?_)
            refine S.skip hf rfl rfl rfl (fun a hf => ?_)
            refine S.skip hf rfl rfl rfl (fun a hf => ?_)
            refine S.val hf hs (v := .bool false) rfl rfl rfl (V.pure rfl) (fun a hf => ?_)
            refine S.val hf hs (v := .bool false) rfl rfl rfl (V.pure rfl) (fun a hf => ?_)
            refine S.skip hf rfl rfl rfl (fun a hf => ?_)
            refine S.skip hf rfl rfl rfl (fun a hf => ?_)
            refine S.skip hf rfl rfl rfl (fun a hf => ?_)
            refine S.skip hf rfl rfl rfl (fun a hf => ?_)
            refine S.skip hf rfl rfl rfl (fun a hf => ?_)
            refine S.skip hf rfl rfl rfl (fun a hf => ?_)
            refine S.skip hf rfl rfl rfl (fun a hf => ?_)
            refine S.skip hf rfl rfl rfl (fun a hf => ?_)
            refine S.skip hf rfl rfl rfl (fun a hf => ?_)
            refine S.skip hf rfl rfl rfl (fun a hf => ?_)
            refine S.val hf hs (v := .bool false) rfl rfl rfl (V.pure rfl) (fun a hf => ?_)
            refine S.val hf hs (v := .bool false) rfl rfl rfl (V.pure rfl) (fun a hf => ?_)
            refine R.nil ?_
            refine X.then_ ?_
            exact ⟨false, h, (((hf.nil.cons (hf.get 64 _ rfl)).cons (hf.get 7 _ rfl)).cons (hf.get 1 _ rfl)), hs⟩
    · skip
      refine R.list ?_
      refine S.val hf hs (v := .slice y1A y1.length y1C) rfl rfl rfl (V.pure rfl) (fun a hf => ?_)
      obtain ⟨h0x14, x14, hx14, h⟩ := h
      refine S.val hf hs (v := elemPtr y1A (0 * 1)) rfl rfl rfl (V.index rfl rfl rfl Tryz.runUnderlying74 Tryz.sizeOf9 (hs.ownSome 0 rfl (lt_of_get hx14)) h0x14 (lt_of_get hx14) rfl) (fun a hf => ?_)
      refine S.val hf hs (v := .string (ba x14)) rfl rfl rfl (V.loadOwn (off := 0) 0 rfl hx14 rfl rfl rfl Tryz.isAgg9 Tryz.sizeOf9 rfl rfl) (fun a hf => ?_)
      refine S.val hf hs (v := .bool (x14 == [98, 111, 100, 121])) rfl rfl rfl (V.strCmp (x14 == [98, 111, 100, 121]) rfl rfl rfl rfl) (fun a hf => ?_)
      refine S.split hf hs (b := x14 == [98, 111, 100, 121]) rfl rfl rfl (V.pure rfl) (fun hc a hf => ?_) (fun hc a hf => ?_)
      · replace h := h.1 hc
        refine S.val hf hs (v := .slice y1A y1.length y1C) rfl rfl rfl (V.pure rfl) (fun a hf => ?_)
        refine S.val hf hs (v := .int .i64 (y1.length : Int)) rfl rfl rfl (V.len rfl rfl Tryz.runUnderlying74) (fun a hf => ?_)
        refine S.val hf hs (v := .bool ((y1.length : Int) == 6)) rfl rfl rfl (V.pure rfl) (fun a hf => ?_)
        refine S.val hf hs (v := .bool ((y1.length : Int) == 6)) rfl rfl rfl (V.pure rfl) (fun a hf => ?_)
        refine S.split hf hs (b := (y1.length : Int) == 6) rfl rfl rfl (V.pure rfl) (fun hc a hf => ?_) (fun hc a hf => ?_)
        · replace h := h.1 hc
          refine S.val hf hs (v := .pointer (some ⟨lg, 0, none⟩)) rfl rfl rfl (V.pure rfl) (fun a hf => ?_)
          refine S.val hf hs (v := .pointer (some ⟨lg, 0, none⟩)) rfl rfl rfl (V.pure rfl) (fun a hf => ?_)
          refine S.val hf hs (v := .slice lA l.length lC) rfl rfl rfl (V.loadBox 3 rfl rfl rfl Tryz.isAgg47 Tryz.sizeOf47 rfl rfl) (fun a hf => ?_)
          refine S.val hf hs (v := .int .i64 (l.length : Int)) rfl rfl rfl (V.len rfl rfl Tryz.runUnderlying47) (fun a hf => ?_)
          refine S.val hf hs (v := .bool ((l.length : Int) == 0)) rfl rfl rfl (V.pure rfl) (fun a hf => ?_)
          refine S.val hf hs (v := .bool ((l.length : Int) == 0)) rfl rfl rfl (V.pure rfl) (fun a hf => ?_)
          refine S.val hf hs (v := .bool ((l.length : Int) == 0)) rfl rfl rfl (V.pure rfl) (fun a hf => ?_)
          refine R.nil ?_
          refine X.then_ ?_
          exact ⟨((l.length : Int) == 0), h, ((((hf.nil.cons (hf.get 16 _ rfl)).cons (hf.get 7 _ rfl)).cons (hf.get 1 _ rfl)).cons (hf.get 0 _ rfl)), hs⟩
        · replace h := h.2 hc
          refine S.skip hf rfl rfl rfl (fun a hf => ?_)
          refine S.skip hf rfl rfl rfl (fun a hf => ?_)
          refine S.skip hf rfl rfl rfl (fun a hf => ?_)
          refine S.skip hf rfl rfl rfl (fun a hf => ?_)
          refine S.skip hf rfl rfl rfl (fun a hf => ?_)
          refine S.val hf hs (v := .bool false) rfl rfl rfl (V.pure rfl) (fun a hf => ?_)
          refine S.val hf hs (v := .bool false) rfl rfl rfl (V.pure rfl) (fun a hf => ?_)
          refine R.nil ?_
          refine X.then_ ?_
          exact ⟨false, h, ((((hf.nil.cons (hf.get 16 _ rfl)).cons (hf.get 7 _ rfl)).cons (hf.get 1 _ rfl)).cons (hf.get 0 _ rfl)), hs⟩
      · replace h := h.2 hc
        refine S.skip hf rfl rfl rfl (fun a hf => ?_)
        refine S.skip hf rfl rfl rfl (fun a hf => ?_)
        refine S.skip hf rfl rfl rfl (fun a hf => ?_)
        refine S.val hf hs (v := .bool false) rfl rfl rfl (V.pure rfl) (fun a hf => ?_)
        refine S.val hf hs (v := .bool false) rfl rfl rfl (V.pure rfl) (fun a hf => ?_)
        refine S.skip hf rfl rfl rfl (fun a hf => ?_)
        refine S.skip hf rfl rfl rfl (fun a hf => ?_)
        refine S.skip hf rfl rfl rfl (fun a hf => ?_)
        refine S.skip hf rfl rfl rfl (fun a hf => ?_)
        refine S.skip hf rfl rfl rfl (fun a hf => ?_)
        refine S.val hf hs (v := .bool false) rfl rfl rfl (V.pure rfl) (fun a hf => ?_)
        refine S.val hf hs (v := .bool false) rfl rfl rfl (V.pure rfl) (fun a hf => ?_)
        refine R.nil ?_
        refine X.then_ ?_
        exact ⟨false, h, ((((hf.nil.cons (hf.get 16 _ rfl)).cons (hf.get 7 _ rfl)).cons (hf.get 1 _ rfl)).cons (hf.get 0 _ rfl)), hs⟩

set_option linter.unusedVariables false
def M_mount_Read_k2 (Q : (List Body) → (List Place) → Int → Int → Prop) (n2 : Int) (again1 : List Body → List Place → Str → Int → Prop) (y2 : Str) (l5 : List Body) (l6 : List Place) (c1 : Bool) : Prop :=
  cnd c1 (Q ([] : List Body) ([] : List Place) n2 10) (again1 l5 l6 y2 (w64 (n2 + 1)))
def M_mount_Read_L1 (Q : (List Body) → (List Place) → Int → Int → Prop) (again1 : List Body → List Place → Str → Int → Prop) (l3 : List Body) (l4 : List Place) (s2 : Str) (n2 : Int) : Prop :=
  cnd (!(s2 == [])) (M_strings_Cut s2 [10] fun y1 y2 y3 => cnd (!y3) (M_mount_Read_k2 Q n2 again1 y2 l3 l4 true) (M_mount_readLine l3 l4 y1 fun y4 z1 z2 => M_mount_Read_k2 Q n2 again1 y2 z1 z2 (!y4))) (M_mount_CheckPlaces l3 l4 fun y5 => cnd (y5 != 0) (Q ([] : List Body) ([] : List Place) 0 y5) (Q l3 l4 0 0))
def M_mount_Read (text : Str) (Q : (List Body) → (List Place) → Int → Int → Prop) : Prop :=
  cnd (decide ((text.length : Int) > 300000)) (Q ([] : List Body) ([] : List Place) 0 2) (lp (fun again (s : List Body × List Place × Str × Int) => M_mount_Read_L1 Q (fun l3 l4 s2 n2 => again (l3, l4, s2, n2)) s.1 s.2.1 s.2.2.1 s.2.2.2) (([] : List Body), (([] : List Place)), text, 1))
set_option maxHeartbeats 1000000 in
theorem R_mount_Read (text : Str) (w0 : World)  (Q : (List Body) → (List Place) → Int → Int → Prop) (h : M_mount_Read text Q) :
    Ret Tryz.prog 23 #[.string (ba text)] w0 fun v w' => ∃ (r0 : (List Body)) (r0A : Option Addr) (r0C : Nat) (r1 : (List Place)) (r1A : Option Addr) (r1C : Nat) (r2 : Int) (r3 : Int), v = .tuple #[.slice r0A r0.length r0C, .slice r1A r1.length r1C, .int .i64 r2, .int .i64 r3] ∧ Q r0 r1 r2 r3 ∧ Sat w0 none_ [hown 52 r0A r0C r0, hown 57 r1A r1C r1] w' := by
  refine fn_enter Tryz.func23 rfl Tryz.ntmps23 rfl (fs := [(0, .string (ba text))]) rfl (fun a hf => ?_)
  have hs := Sat.start w0 none_
  unfold M_mount_Read at h
  refine wp_seq ?_
  refine R.list ?_
  refine S.val hf hs (v := .slice none 0 0) rfl rfl rfl (V.pure rfl) (fun a hf => ?_)
  refine S.val hf hs (v := .slice none 0 0) rfl rfl rfl (V.pure rfl) (fun a hf => ?_)
  refine S.val hf hs (v := .int .i64 0) rfl rfl rfl (V.pure rfl) (fun a hf => ?_)
  refine S.val hf hs (v := .int .i64 0) rfl rfl rfl (V.pure rfl) (fun a hf => ?_)
  refine R.nil ?_
  refine X.then_ ?_
  refine wp_seq ?_
  refine wp_seq ?_
  refine R.list ?_
  refine S.val hf hs (v := .string (ba text)) rfl rfl rfl (V.pure rfl) (fun a hf => ?_)
  refine S.val hf hs (v := .int .i64 (text.length : Int)) rfl rfl rfl (V.lenStr rfl rfl Tryz.runUnderlying9) (fun a hf => ?_)
  refine S.val hf hs (v := .bool (decide ((text.length : Int) > 300000))) rfl rfl rfl (V.pure rfl) (fun a hf => ?_)
  refine R.nil ?_
  refine X.then_ ?_
  refine C.cond hf (b := decide ((text.length : Int) > 300000)) rfl (fun hc => ?_) (fun hc => ?_)
  · replace h := h.1 hc
    refine wp_seq ?_
    refine R.list ?_
    refine S.val hf hs (v := .slice none 0 0) rfl rfl rfl (V.pure rfl) (fun a hf => ?_)
    refine S.val hf hs (v := .slice none 0 0) rfl rfl rfl (V.pure rfl) (fun a hf => ?_)
    refine S.val hf hs (v := .int .i64 0) rfl rfl rfl (V.pure rfl) (fun a hf => ?_)
    refine S.val hf hs (v := .int .i64 2) rfl rfl rfl (V.pure rfl) (fun a hf => ?_)
    refine R.nil ?_
    refine X.then_ ?_
    refine wp_ret ?_
    refine X.then_ret ?_
    replace hs := hs.nilOwn (α := Body) 52
    replace hs := hs.nilOwn (α := Place) 57
    replace hs := hs.front 1 rfl
    replace hs := hs.take 2
    exact L.ret hf (run_results4 Tryz.results23 (ResIs.tmp hf rfl) (ResIs.tmp hf rfl) (ResIs.tmp hf rfl) (ResIs.tmp hf rfl)) ⟨([] : List Body), none, 0, ([] : List Place), none, 0, 0, 2, rfl, h, hs⟩
  · replace h := h.2 hc
    refine wp_skip ?_
    refine X.then_ ?_
    refine wp_seq ?_
    refine R.list ?_
    refine S.alloc hf hs rfl rfl rfl [.slice none 0 0] rfl Tryz.zeroValue46 rfl (fun g1 a w hf hs => ?_)
    refine R.nil ?_
    refine X.then_ ?_
    refine wp_seq ?_
    refine R.list ?_
    refine S.alloc hf hs rfl rfl rfl [.slice none 0 0] rfl Tryz.zeroValue47 rfl (fun g2 a w hf hs => ?_)
    refine R.nil ?_
    refine X.then_ ?_
    refine wp_seq ?_
    refine wp_seq ?_
    refine R.list ?_
    refine S.val hf hs (v := .int .i64 1) rfl rfl rfl (V.pure rfl) (fun a hf => ?_)
    refine R.nil ?_
    refine X.then_ ?_
    refine wp_block ?_
    replace hs := hs.nilOwn (α := Body) 52
    replace hs := hs.rebox 2 (vs' := [.slice none ([] : List Body).length 0]) rfl rfl
    replace hs := hs.nilOwn (α := Place) 57
    replace hs := hs.rebox 2 (vs' := [.slice none (([] : List Place)).length 0]) rfl rfl
    replace hs := hs.front 2 rfl
    replace hs := hs.front 2 rfl
    replace hs := hs.front 3 rfl
    obtain ⟨kk, h⟩ := h
    refine C.loop (fun kk a w => ∃ (l3 : List Body) (l3A : Option Addr) (l3C : Nat) (l4 : List Place) (l4A : Option Addr) (l4C : Nat) (s2 : Str) (n2 : Int), iterF (fun again (s : List Body × List Place × Str × Int) => M_mount_Read_L1 Q (fun l3 l4 s2 n2 => again (l3, l4, s2, n2)) s.1 s.2.1 s.2.2.1 s.2.2.2) kk (l3, l4, s2, n2) ∧ FrOk 43 [(0, .string (ba s2)), (6, .pointer (some ⟨g1, 0, none⟩)), (7, .pointer (some ⟨g2, 0, none⟩)), (8, .int .i64 n2)] a ∧ Sat w0 none_ [hbox g1 46 [.slice l3A l3.length l3C], hown 52 l3A l3C l3, hbox g2 47 [.slice l4A l4.length l4C], hown 57 l4A l4C l4] w) kk ⟨([] : List Body), none, 0, (([] : List Place)), none, 0, text, 1, h, ((((hf.nil.cons (hf.get 8 _ rfl)).cons (hf.get 7 _ rfl)).cons (hf.get 6 _ rfl)).cons (hf.get 0 _ rfl)), hs⟩ (fun a w ⟨_, _, _, _, _, _, _, _, h, _, _⟩ => h) ?_
    clear h hf hs
    rintro kk a w ⟨l3, l3A, l3C, l4, l4A, l4C, s2, n2, h, hf, hs⟩
    obtain ⟨again1, hagain1⟩ : ∃ X : List Body → List Place → Str → Int → Prop, X = (fun l3 l4 s2 n2 => iterF (fun again (s : List Body × List Place × Str × Int) => M_mount_Read_L1 Q (fun l3 l4 s2 n2 => again (l3, l4, s2, n2)) s.1 s.2.1 s.2.2.1 s.2.2.2) kk (l3, l4, s2, n2)) := ⟨_, rfl⟩
    replace h : M_mount_Read_L1 Q again1 l3 l4 s2 n2 := by rw [hagain1]; exact h
    unfold M_mount_Read_L1 at h
    refine wp_seq ?_
    refine wp_seq ?_
    refine R.list ?_
    refine S.val hf hs (v := .string (ba s2)) rfl rfl rfl (V.pure rfl) (fun a hf => ?_)
    refine S.val hf hs (v := .bool (!(s2 == []))) rfl rfl rfl (V.strCmp (!(s2 == [])) rfl rfl rfl rfl) (fun a hf => ?_)
    refine R.nil ?_
    refine X.then_ ?_
    refine C.cond hf (b := !(s2 == [])) rfl (fun hc => ?_) (fun hc => ?_)
    · replace h := h.1 hc
      refine wp_skip ?_
      refine X.then_ ?_
      refine wp_seq ?_
      refine wp_block ?_
      refine wp_seq ?_
      refine R.list ?_
      refine S.val hf hs (v := .string (ba s2)) rfl rfl rfl (V.pure rfl) (fun a hf => ?_)
      refine S.call hf rfl rfl rfl (call_fn (vs := [.string (ba s2), .string (ba [10])]) rfl rfl rfl Tryz.call38) (R_strings_Cut s2 [10] _  _ h) (fun v a w' hf hr => ?_)
      obtain ⟨y1, y2, y3, rfl, h2, hs2⟩ := hr
      replace h := h2; replace hs := hs.call hs2; clear h2 hs2
      refine S.val hf hs (v := .tuple #[.string (ba y1), .string (ba y2), .bool y3]) rfl rfl rfl (V.pure rfl) (fun a hf => ?_)
      refine S.val hf hs (v := .string (ba y1)) rfl rfl rfl (V.pure rfl) (fun a hf => ?_)
      refine S.val hf hs (v := .string (ba y2)) rfl rfl rfl (V.pure rfl) (fun a hf => ?_)
      refine S.val hf hs (v := .bool y3) rfl rfl rfl (V.pure rfl) (fun a hf => ?_)
      refine S.val hf hs (v := .string (ba y1)) rfl rfl rfl (V.pure rfl) (fun a hf => ?_)
      refine S.val hf hs (v := .string (ba y2)) rfl rfl rfl (V.pure rfl) (fun a hf => ?_)
      refine S.val hf hs (v := .bool y3) rfl rfl rfl (V.pure rfl) (fun a hf => ?_)
      refine R.nil ?_
      refine X.then_ ?_
      refine wp_seq ?_
      refine wp_seq ?_
      refine C.cut (J := fun a w => ∃ (l5 : List Body) (l5A : Option Addr) (l5C : Nat) (l6 : List Place) (l6A : Option Addr) (l6C : Nat) (c1 : Bool), M_mount_Read_k2 Q n2 again1 y2 l5 l6 c1 ∧ FrOk 43 [(6, .pointer (some ⟨g1, 0, none⟩)), (7, .pointer (some ⟨g2, 0, none⟩)), (8, .int .i64 n2), (10, .string (ba y2)), (32, .bool c1)] a ∧ Sat w0 none_ [hbox g1 46 [.slice l5A l5.length l5C], hown 52 l5A l5C l5, hbox g2 47 [.slice l6A l6.length l6C], hown 57 l6A l6C l6] w) ?_ ?_
      · rintro a w ⟨l5, l5A, l5C, l6, l6A, l6C, c1, h, hf, hs⟩
        unfold M_mount_Read_k2 at h
        refine C.cond hf (b := c1) rfl (fun hc => ?_) (fun hc => ?_)
        · replace h := h.1 hc
          refine wp_seq ?_
          refine R.list ?_
          refine S.val hf hs (v := .int .i64 n2) rfl rfl rfl (V.pure rfl) (fun a hf => ?_)
          refine S.val hf hs (v := .slice none 0 0) rfl rfl rfl (V.pure rfl) (fun a hf => ?_)
          refine S.val hf hs (v := .slice none 0 0) rfl rfl rfl (V.pure rfl) (fun a hf => ?_)
          refine S.val hf hs (v := .int .i64 n2) rfl rfl rfl (V.pure rfl) (fun a hf => ?_)
          refine S.val hf hs (v := .int .i64 10) rfl rfl rfl (V.pure rfl) (fun a hf => ?_)
          refine R.nil ?_
          refine X.then_ ?_
          refine wp_ret ?_
          refine X.then_ret ?_
          refine X.blk_ret ?_
          refine X.then_ret ?_
          refine X.then_ret ?_
          refine X.blk_ret ?_
          refine X.then_ret ?_
          replace hs := hs.nilOwn (α := Body) 52
          replace hs := hs.nilOwn (α := Place) 57
          replace hs := hs.front 1 rfl
          replace hs := hs.take 2
          exact L.ret hf (run_results4 Tryz.results23 (ResIs.tmp hf rfl) (ResIs.tmp hf rfl) (ResIs.tmp hf rfl) (ResIs.tmp hf rfl)) ⟨([] : List Body), none, 0, ([] : List Place), none, 0, n2, 10, rfl, h, hs⟩
        · replace h := h.2 hc
          refine wp_skip ?_
          refine X.then_ ?_
          refine R.list ?_
          refine S.val hf hs (v := .string (ba y2)) rfl rfl rfl (V.pure rfl) (fun a hf => ?_)
          refine S.val hf hs (v := .string (ba y2)) rfl rfl rfl (V.pure rfl) (fun a hf => ?_)
          refine R.nil ?_
          refine X.blk ?_
          refine X.then_ ?_
          refine R.list ?_
          refine S.val hf hs (v := .int .i64 n2) rfl rfl rfl (V.pure rfl) (fun a hf => ?_)
          refine S.val hf hs (v := .int .i64 (w64 (n2 + 1))) rfl rfl rfl (V.pure rfl) (fun a hf => ?_)
          refine S.val hf hs (v := .int .i64 (w64 (n2 + 1))) rfl rfl rfl (V.pure rfl) (fun a hf => ?_)
          refine R.nil ?_
          refine X.then_ ?_
          exact ⟨l5, l5A, l5C, l6, l6A, l6C, y2, (w64 (n2 + 1)), (by rw [hagain1] at h; exact h), ((((hf.nil.cons (hf.get 8 _ rfl)).cons (hf.get 7 _ rfl)).cons (hf.get 6 _ rfl)).cons (hf.get 0 _ rfl)), hs⟩
      · skip
        refine R.list ?_
        refine S.val hf hs (v := .bool y3) rfl rfl rfl (V.pure rfl) (fun a hf => ?_)
        refine S.val hf hs (v := .bool (!y3)) rfl rfl rfl (V.pure rfl) (fun a hf => ?_)
        refine S.split hf hs (b := !y3) rfl rfl rfl (V.pure rfl) (fun hc a hf => ?_) (fun hc a hf => ?_)
        · replace h := h.1 hc
          refine S.skip hf rfl rfl rfl (fun a hf => ?_)
          refine S.skip hf rfl rfl rfl (fun a hf => ?_)
          refine S.skip hf rfl rfl rfl (fun a hf => ?_)
          refine S.val hf hs (v := .bool true) rfl rfl rfl (V.pure rfl) (fun a hf => ?_)
          refine R.nil ?_
          refine X.then_ ?_
          exact ⟨l3, l3A, l3C, l4, l4A, l4C, true, h, (((((hf.nil.cons (hf.get 32 _ rfl)).cons (hf.get 10 _ rfl)).cons (hf.get 8 _ rfl)).cons (hf.get 7 _ rfl)).cons (hf.get 6 _ rfl)), hs⟩
        · replace h := h.2 hc
          refine S.val hf hs (v := .string (ba y1)) rfl rfl rfl (V.pure rfl) (fun a hf => ?_)
          replace hs := hs.front 3 rfl
          replace hs := hs.front 3 rfl
          replace hs := hs.front 3 rfl
          replace hs := hs.front 3 rfl
          obtain ⟨F1, hsF, hback, hold, hrest⟩ := Sat.callOwns [hbox g1 46 [.slice l3A l3.length l3C], hown 52 l3A l3C l3, hbox g2 47 [.slice l4A l4.length l4C], hown 57 l4A l4C l4] (σ := []) hs
          refine S.call hf rfl rfl rfl (call_fn (vs := [.pointer (some ⟨g1, 0, none⟩), .pointer (some ⟨g2, 0, none⟩), .string (ba y1)]) rfl rfl rfl Tryz.call58) (R_mount_readLine l3 l4 y1 _ _ g1 l3A l3C g2 l4A l4C hsF _ h) (fun v a w' hf hr => ?_)
          obtain ⟨y4, z1, z1A, z1C, z2, z2A, z2C, rfl, h2, hs2⟩ := hr
          replace h := h2; replace hs := hback _ _ hs2; clear h2 hs2 hback hold hrest hsF
          refine S.val hf hs (v := .bool (!y4)) rfl rfl rfl (V.pure rfl) (fun a hf => ?_)
          refine S.val hf hs (v := .bool (!y4)) rfl rfl rfl (V.pure rfl) (fun a hf => ?_)
          refine R.nil ?_
          refine X.then_ ?_
          exact ⟨z1, z1A, z1C, z2, z2A, z2C, (!y4), h, (((((hf.nil.cons (hf.get 32 _ rfl)).cons (hf.get 10 _ rfl)).cons (hf.get 8 _ rfl)).cons (hf.get 7 _ rfl)).cons (hf.get 6 _ rfl)), hs⟩
    · replace h := h.2 hc
      refine wp_exit ?_
      refine X.then_exit ?_
      refine X.then_exit ?_
      refine X.blk_exit ?_
      refine X.then_ ?_
      refine wp_seq ?_
      refine wp_seq ?_
      refine R.list ?_
      refine S.val hf hs (v := .slice l3A l3.length l3C) rfl rfl rfl (V.loadBox 0 rfl rfl rfl Tryz.isAgg46 Tryz.sizeOf46 rfl rfl) (fun a hf => ?_)
      refine S.val hf hs (v := .slice l4A l4.length l4C) rfl rfl rfl (V.loadBox 2 rfl rfl rfl Tryz.isAgg47 Tryz.sizeOf47 rfl rfl) (fun a hf => ?_)
      refine S.call hf rfl rfl rfl (call_fn (vs := [.slice l3A l3.length l3C, .slice l4A l4.length l4C]) rfl rfl rfl Tryz.call59) (R_mount_CheckPlaces l3 l4 _ l3A l3C (hs.ownView 1 rfl) l4A l4C (hs.ownView 3 rfl) _ h) (fun v a w' hf hr => ?_)
      obtain ⟨y5, rfl, h2, hs2⟩ := hr
      replace h := h2; replace hs := hs.call hs2; clear h2 hs2
      refine S.val hf hs (v := .int .i64 y5) rfl rfl rfl (V.pure rfl) (fun a hf => ?_)
      refine R.nil ?_
      refine X.then_ ?_
      refine wp_seq ?_
      refine R.list ?_
      refine S.val hf hs (v := .int .i64 y5) rfl rfl rfl (V.pure rfl) (fun a hf => ?_)
      refine S.val hf hs (v := .bool (y5 != 0)) rfl rfl rfl (V.pure rfl) (fun a hf => ?_)
      refine R.nil ?_
      refine X.then_ ?_
      refine C.cond hf (b := y5 != 0) rfl (fun hc => ?_) (fun hc => ?_)
      · replace h := h.1 hc
        refine wp_seq ?_
        refine R.list ?_
        refine S.val hf hs (v := .int .i64 y5) rfl rfl rfl (V.pure rfl) (fun a hf => ?_)
        refine S.val hf hs (v := .slice none 0 0) rfl rfl rfl (V.pure rfl) (fun a hf => ?_)
        refine S.val hf hs (v := .slice none 0 0) rfl rfl rfl (V.pure rfl) (fun a hf => ?_)
        refine S.val hf hs (v := .int .i64 0) rfl rfl rfl (V.pure rfl) (fun a hf => ?_)
        refine S.val hf hs (v := .int .i64 y5) rfl rfl rfl (V.pure rfl) (fun a hf => ?_)
        refine R.nil ?_
        refine X.then_ ?_
        refine wp_ret ?_
        refine X.then_ret ?_
        replace hs := hs.nilOwn (α := Body) 52
        replace hs := hs.nilOwn (α := Place) 57
        replace hs := hs.front 1 rfl
        replace hs := hs.take 2
        exact L.ret hf (run_results4 Tryz.results23 (ResIs.tmp hf rfl) (ResIs.tmp hf rfl) (ResIs.tmp hf rfl) (ResIs.tmp hf rfl)) ⟨([] : List Body), none, 0, ([] : List Place), none, 0, 0, y5, rfl, h, hs⟩
      · replace h := h.2 hc
        refine wp_skip ?_
        refine X.then_ ?_
        refine wp_seq ?_
        refine R.draw mo (by kernel_rfl) hs ?_
        refine D.val hf (v := .slice l3A l3.length l3C) rfl rfl rfl (V.loadBox 0 rfl rfl rfl Tryz.isAgg46 Tryz.sizeOf46 rfl rfl) (fun a hf => ?_)
        refine D.val hf (v := .slice l4A l4.length l4C) rfl rfl rfl (V.loadBox 2 rfl rfl rfl Tryz.isAgg47 Tryz.sizeOf47 rfl rfl) (fun a hf => ?_)
        refine D.val hf (v := .slice l3A l3.length l3C) rfl rfl rfl (V.pure rfl) (fun a hf => ?_)
        refine D.val hf (v := .slice l4A l4.length l4C) rfl rfl rfl (V.pure rfl) (fun a hf => ?_)
        refine D.val hf (v := .int .i64 0) rfl rfl rfl (V.pure rfl) (fun a hf => ?_)
        refine D.val hf (v := .int .i64 0) rfl rfl rfl (V.pure rfl) (fun a hf => ?_)
        refine D.done (fun w hs => ?_)
        refine X.then_ ?_
        refine wp_ret ?_
        replace hs := hs.front 3 rfl
        replace hs := hs.front 2 rfl
        replace hs := hs.take 2
        exact L.ret hf (run_results4 Tryz.results23 (ResIs.tmp hf rfl) (ResIs.tmp hf rfl) (ResIs.tmp hf rfl) (ResIs.tmp hf rfl)) ⟨l3, l3A, l3C, l4, l4A, l4C, 0, 0, rfl, h, hs⟩

set_option linter.unusedVariables false
def M_ref10_number_k1 (s_ : Str) (Q : Int → Bool → Prop) (c1 : Bool) : Prop :=
  cnd c1 (Q 0 false) (M_strconv_Atoi s_ fun y1 y2 => Q y1 true)
def M_ref10_number (s_ : Str) (Q : Int → Bool → Prop) : Prop :=
  cnd (s_ == []) (M_ref10_number_k1 s_ Q true) (cnd (decide ((s_.length : Int) > 9)) (M_ref10_number_k1 s_ Q true) (cnd (decide ((s_.length : Int) > 1)) (idx s_ 0 fun x1 => cnd ((x1.toNat : Int) == 48) (M_ref10_number_k1 s_ Q true) (M_strings_Trim s_ [48, 49, 50, 51, 52, 53, 54, 55, 56, 57] fun y3 => M_ref10_number_k1 s_ Q (!(y3 == [])))) (M_strings_Trim s_ [48, 49, 50, 51, 52, 53, 54, 55, 56, 57] fun y4 => M_ref10_number_k1 s_ Q (!(y4 == [])))))
set_option maxHeartbeats 1000000 in
theorem R_ref10_number (s_ : Str) (w0 : World)  (Q : Int → Bool → Prop) (h : M_ref10_number s_ Q) :
    Ret Tryz.prog 125 #[.string (ba s_)] w0 fun v w' => ∃ (r0 : Int) (r1 : Bool), v = .tuple #[.int .i64 r0, .bool r1] ∧ Q r0 r1 ∧ Sat w0 none_ [] w' := by
  refine fn_enter Tryz.func125 rfl Tryz.ntmps125 rfl (fs := [(0, .string (ba s_))]) rfl (fun a hf => ?_)
  have hs := Sat.start w0 none_
  unfold M_ref10_number at h
  refine wp_seq ?_
  refine R.list ?_
  refine S.val hf hs (v := .int .i64 0) rfl rfl rfl (V.pure rfl) (fun a hf => ?_)
  refine S.val hf hs (v := .bool false) rfl rfl rfl (V.pure rfl) (fun a hf => ?_)
  refine R.nil ?_
  refine X.then_ ?_
  refine wp_seq ?_
  refine wp_seq ?_
  refine C.cut (J := fun a w => ∃ (c1 : Bool), M_ref10_number_k1 s_ Q c1 ∧ FrOk 34 [(0, .string (ba s_)), (27, .bool c1)] a ∧ Sat w0 none_ [] w) ?_ ?_
  · rintro a w ⟨c1, h, hf, hs⟩
    unfold M_ref10_number_k1 at h
    refine C.cond hf (b := c1) rfl (fun hc => ?_) (fun hc => ?_)
    · replace h := h.1 hc
      refine wp_seq ?_
      refine R.list ?_
      refine S.val hf hs (v := .int .i64 0) rfl rfl rfl (V.pure rfl) (fun a hf => ?_)
      refine S.val hf hs (v := .bool false) rfl rfl rfl (V.pure rfl) (fun a hf => ?_)
      refine R.nil ?_
      refine X.then_ ?_
      refine wp_ret ?_
      refine X.then_ret ?_
      exact L.ret hf (run_results2 Tryz.results125 (ResIs.tmp hf rfl) (ResIs.tmp hf rfl)) ⟨0, false, rfl, h, hs.nil⟩
    · replace h := h.2 hc
      refine wp_skip ?_
      refine X.then_ ?_
      refine wp_seq ?_
      refine R.list ?_
      refine S.val hf hs (v := .string (ba s_)) rfl rfl rfl (V.pure rfl) (fun a hf => ?_)
      refine S.call hf rfl rfl rfl (call_fn (vs := [.string (ba s_)]) rfl rfl rfl Tryz.call143) (R_strconv_Atoi s_ _  _ h) (fun v a w' hf hr => ?_)
      obtain ⟨y1, y2, rfl, h2, hs2⟩ := hr
      replace h := h2; replace hs := hs.call hs2; clear h2 hs2
      refine S.val hf hs (v := .tuple #[.int .i64 y1, .nilIface]) rfl rfl rfl (V.pure rfl) (fun a hf => ?_)
      refine S.val hf hs (v := .int .i64 y1) rfl rfl rfl (V.pure rfl) (fun a hf => ?_)
      refine S.val hf hs (v := .nilIface) rfl rfl rfl (V.pure rfl) (fun a hf => ?_)
      refine S.val hf hs (v := .int .i64 y1) rfl rfl rfl (V.pure rfl) (fun a hf => ?_)
      refine S.val hf hs (v := .nilIface) rfl rfl rfl (V.pure rfl) (fun a hf => ?_)
      refine R.nil ?_
      refine X.then_ ?_
      refine wp_seq ?_
      refine R.list ?_
      refine S.val hf hs (v := .int .i64 y1) rfl rfl rfl (V.pure rfl) (fun a hf => ?_)
      refine S.val hf hs (v := .int .i64 y1) rfl rfl rfl (V.pure rfl) (fun a hf => ?_)
      refine S.val hf hs (v := .bool true) rfl rfl rfl (V.pure rfl) (fun a hf => ?_)
      refine R.nil ?_
      refine X.then_ ?_
      refine wp_ret ?_
      exact L.ret hf (run_results2 Tryz.results125 (ResIs.tmp hf rfl) (ResIs.tmp hf rfl)) ⟨y1, true, rfl, h, hs.nil⟩
  · skip
    refine R.list ?_
    refine S.val hf hs (v := .string (ba s_)) rfl rfl rfl (V.pure rfl) (fun a hf => ?_)
    refine S.val hf hs (v := .bool (s_ == [])) rfl rfl rfl (V.strCmp (s_ == []) rfl rfl rfl rfl) (fun a hf => ?_)
    refine S.split hf hs (b := s_ == []) rfl rfl rfl (V.pure rfl) (fun hc a hf => ?_) (fun hc a hf => ?_)
    · replace h := h.1 hc
      refine S.skip hf rfl rfl rfl (fun a hf => ?_)
      refine S.skip hf rfl rfl rfl (fun a hf => ?_)
      refine S.skip hf rfl rfl rfl (fun a hf => ?_)
      refine S.val hf hs (v := .bool true) rfl rfl rfl (V.pure rfl) (fun a hf => ?_)
      refine S.val hf hs (v := .bool true) rfl rfl rfl (V.pure rfl) (fun a hf => ?_)
      refine S.skip hf rfl rfl rfl (fun a hf => ?_)
      refine S.skip hf rfl rfl rfl (fun a hf => ?_)
      refine S.skip hf rfl rfl rfl (fun a hf => ?_)
      refine S.skip hf rfl rfl rfl (fun a hf => ?_)
      refine S.skip hf rfl rfl rfl (fun a hf => ?_)
      refine S.skip hf rfl rfl rfl (fun a hf => ?_)
      refine S.skip hf rfl rfl rfl (fun a hf => ?_)
      refine S.skip hf rfl rfl rfl (fun a hf => ?_)
      refine S.val hf hs (v := .bool true) rfl rfl rfl (V.pure rfl) (fun a hf => ?_)
      refine S.val hf hs (v := .bool true) rfl rfl rfl (V.pure rfl) (fun a hf => ?_)
      refine S.skip hf rfl rfl rfl (fun a hf => ?_)
      refine S.skip hf rfl rfl rfl (fun a hf => ?_)
      refine S.skip hf rfl rfl rfl (fun a hf => ?_)
      refine S.val hf hs (v := .bool true) rfl rfl rfl (V.pure rfl) (fun a hf => ?_)
      refine R.nil ?_
      refine X.then_ ?_
      exact ⟨true, h, ((hf.nil.cons (hf.get 27 _ rfl)).cons (hf.get 0 _ rfl)), hs⟩
    · replace h := h.2 hc
      refine S.val hf hs (v := .string (ba s_)) rfl rfl rfl (V.pure rfl) (fun a hf => ?_)
      refine S.val hf hs (v := .int .i64 (s_.length : Int)) rfl rfl rfl (V.lenStr rfl rfl Tryz.runUnderlying9) (fun a hf => ?_)
      refine S.val hf hs (v := .bool (decide ((s_.length : Int) > 9))) rfl rfl rfl (V.pure rfl) (fun a hf => ?_)
      refine S.val hf hs (v := .bool (decide ((s_.length : Int) > 9))) rfl rfl rfl (V.pure rfl) (fun a hf => ?_)
      refine S.split hf hs (b := decide ((s_.length : Int) > 9)) rfl rfl rfl (V.pure rfl) (fun hc a hf => ?_) (fun hc a hf => ?_)
      · replace h := h.1 hc
        refine S.skip hf rfl rfl rfl (fun a hf => ?_)
        refine S.skip hf rfl rfl rfl (fun a hf => ?_)
        refine S.skip hf rfl rfl rfl (fun a hf => ?_)
        refine S.skip hf rfl rfl rfl (fun a hf => ?_)
        refine S.skip hf rfl rfl rfl (fun a hf => ?_)
        refine S.skip hf rfl rfl rfl (fun a hf => ?_)
        refine S.skip hf rfl rfl rfl (fun a hf => ?_)
        refine S.skip hf rfl rfl rfl (fun a hf => ?_)
        refine S.val hf hs (v := .bool true) rfl rfl rfl (V.pure rfl) (fun a hf => ?_)
        refine S.val hf hs (v := .bool true) rfl rfl rfl (V.pure rfl) (fun a hf => ?_)
        refine S.skip hf rfl rfl rfl (fun a hf => ?_)
        refine S.skip hf rfl rfl rfl (fun a hf => ?_)
        refine S.skip hf rfl rfl rfl (fun a hf => ?_)
        refine S.val hf hs (v := .bool true) rfl rfl rfl (V.pure rfl) (fun a hf => ?_)
        refine R.nil ?_
        refine X.then_ ?_
        exact ⟨true, h, ((hf.nil.cons (hf.get 27 _ rfl)).cons (hf.get 0 _ rfl)), hs⟩
      · replace h := h.2 hc
        refine S.val hf hs (v := .string (ba s_)) rfl rfl rfl (V.pure rfl) (fun a hf => ?_)
        refine S.val hf hs (v := .int .i64 (s_.length : Int)) rfl rfl rfl (V.lenStr rfl rfl Tryz.runUnderlying9) (fun a hf => ?_)
        refine S.val hf hs (v := .bool (decide ((s_.length : Int) > 1))) rfl rfl rfl (V.pure rfl) (fun a hf => ?_)
        refine S.split hf hs (b := decide ((s_.length : Int) > 1)) rfl rfl rfl (V.pure rfl) (fun hc a hf => ?_) (fun hc a hf => ?_)
        · replace h := h.1 hc
          refine S.val hf hs (v := .string (ba s_)) rfl rfl rfl (V.pure rfl) (fun a hf => ?_)
          obtain ⟨h0x1, x1, hx1, h⟩ := h
          refine S.val hf hs (v := .int .u8 (x1.toNat : Int)) rfl rfl rfl (V.indexStr rfl rfl rfl Tryz.runUnderlying9 h0x1 hx1) (fun a hf => ?_)
          refine S.val hf hs (v := .bool ((x1.toNat : Int) == 48)) rfl rfl rfl (V.pure rfl) (fun a hf => ?_)
          refine S.val hf hs (v := .bool ((x1.toNat : Int) == 48)) rfl rfl rfl (V.pure rfl) (fun a hf => ?_)
          refine S.val hf hs (v := .bool ((x1.toNat : Int) == 48)) rfl rfl rfl (V.pure rfl) (fun a hf => ?_)
          refine S.split hf hs (b := (x1.toNat : Int) == 48) rfl rfl rfl (V.pure rfl) (fun hc a hf => ?_) (fun hc a hf => ?_)
          · replace h := h.1 hc
            refine S.skip hf rfl rfl rfl (fun a hf => ?_)
            refine S.skip hf rfl rfl rfl (fun a hf => ?_)
            refine S.skip hf rfl rfl rfl (fun a hf => ?_)
            refine S.val hf hs (v := .bool true) rfl rfl rfl (V.pure rfl) (fun a hf => ?_)
            refine R.nil ?_
            refine X.then_ ?_
            exact ⟨true, h, ((hf.nil.cons (hf.get 27 _ rfl)).cons (hf.get 0 _ rfl)), hs⟩
          · replace h := h.2 hc
            refine S.val hf hs (v := .string (ba s_)) rfl rfl rfl (V.pure rfl) (fun a hf => ?_)
            refine S.call hf rfl rfl rfl (call_fn (vs := [.string (ba s_), .string (ba [48, 49, 50, 51, 52, 53, 54, 55, 56, 57])]) rfl rfl rfl Tryz.call142) (R_strings_Trim s_ [48, 49, 50, 51, 52, 53, 54, 55, 56, 57] _  _ h) (fun v a w' hf hr => ?_)
            obtain ⟨y3, rfl, h2, hs2⟩ := hr
            replace h := h2; replace hs := hs.call hs2; clear h2 hs2
            refine S.val hf hs (v := .bool (!(y3 == []))) rfl rfl rfl (V.strCmp (!(y3 == [])) rfl rfl rfl rfl) (fun a hf => ?_)
            refine S.val hf hs (v := .bool (!(y3 == []))) rfl rfl rfl (V.pure rfl) (fun a hf => ?_)
            refine R.nil ?_
            refine X.then_ ?_
            exact ⟨(!(y3 == [])), h, ((hf.nil.cons (hf.get 27 _ rfl)).cons (hf.get 0 _ rfl)), hs⟩
        · replace h := h.2 hc
          refine S.skip hf rfl rfl rfl (fun a hf => ?_)
          refine S.skip hf rfl rfl rfl (fun a hf => ?_)
          refine S.skip hf rfl rfl rfl (fun a hf => ?_)
          refine S.val hf hs (v := .bool false) rfl rfl rfl (V.pure rfl) (fun a hf => ?_)
          refine S.val hf hs (v := .bool false) rfl rfl rfl (V.pure rfl) (fun a hf => ?_)
          refine S.val hf hs (v := .bool false) rfl rfl rfl (V.pure rfl) (fun a hf => ?_)
          refine S.val hf hs (v := .string (ba s_)) rfl rfl rfl (V.pure rfl) (fun a hf => ?_)
          refine S.call hf rfl rfl rfl (call_fn (vs := [.string (ba s_), .string (ba [48, 49, 50, 51, 52, 53, 54, 55, 56, 57])]) rfl rfl rfl Tryz.call142) (R_strings_Trim s_ [48, 49, 50, 51, 52, 53, 54, 55, 56, 57] _  _ h) (fun v a w' hf hr => ?_)
          obtain ⟨y4, rfl, h2, hs2⟩ := hr
          replace h := h2; replace hs := hs.call hs2; clear h2 hs2
          refine S.val hf hs (v := .bool (!(y4 == []))) rfl rfl rfl (V.strCmp (!(y4 == [])) rfl rfl rfl rfl) (fun a hf => ?_)
          refine S.val hf hs (v := .bool (!(y4 == []))) rfl rfl rfl (V.pure rfl) (fun a hf => ?_)
          refine R.nil ?_
          refine X.then_ ?_
          exact ⟨(!(y4 == [])), h, ((hf.nil.cons (hf.get 27 _ rfl)).cons (hf.get 0 _ rfl)), hs⟩

set_option linter.unusedVariables false
def M_ref10_signed (s_ : Str) (Q : Int → Bool → Prop) : Prop :=
  M_strings_CutPrefix s_ [45] fun y1 y2 => M_ref10_number y1 fun y3 y4 => cnd (!y2) (Q y3 y4) (cnd y4 (Q (w64 (-y3)) (y3 != 0)) (Q (w64 (-y3)) false))
set_option maxHeartbeats 1000000 in
theorem R_ref10_signed (s_ : Str) (w0 : World)  (Q : Int → Bool → Prop) (h : M_ref10_signed s_ Q) :
    Ret Tryz.prog 126 #[.string (ba s_)] w0 fun v w' => ∃ (r0 : Int) (r1 : Bool), v = .tuple #[.int .i64 r0, .bool r1] ∧ Q r0 r1 ∧ Sat w0 none_ [] w' := by
  refine fn_enter Tryz.func126 rfl Tryz.ntmps126 rfl (fs := [(0, .string (ba s_))]) rfl (fun a hf => ?_)
  have hs := Sat.start w0 none_
  unfold M_ref10_signed at h
  refine wp_seq ?_
  refine R.list ?_
  refine S.val hf hs (v := .int .i64 0) rfl rfl rfl (V.pure rfl) (fun a hf => ?_)
  refine S.val hf hs (v := .bool false) rfl rfl rfl (V.pure rfl) (fun a hf => ?_)
  refine R.nil ?_
  refine X.then_ ?_
  refine wp_seq ?_
  refine R.list ?_
  refine S.val hf hs (v := .string (ba s_)) rfl rfl rfl (V.pure rfl) (fun a hf => ?_)
  refine S.call hf rfl rfl rfl (call_fn (vs := [.string (ba s_), .string (ba [45])]) rfl rfl rfl Tryz.call161) (R_strings_CutPrefix s_ [45] _  _ h) (fun v a w' hf hr => ?_)
  obtain ⟨y1, y2, rfl, h2, hs2⟩ := hr
  replace h := h2; replace hs := hs.call hs2; clear h2 hs2
  refine S.val hf hs (v := .tuple #[.string (ba y1), .bool y2]) rfl rfl rfl (V.pure rfl) (fun a hf => ?_)
  refine S.val hf hs (v := .string (ba y1)) rfl rfl rfl (V.pure rfl) (fun a hf => ?_)
  refine S.val hf hs (v := .bool y2) rfl rfl rfl (V.pure rfl) (fun a hf => ?_)
  refine S.val hf hs (v := .string (ba y1)) rfl rfl rfl (V.pure rfl) (fun a hf => ?_)
  refine S.val hf hs (v := .bool y2) rfl rfl rfl (V.pure rfl) (fun a hf => ?_)
  refine R.nil ?_
  refine X.then_ ?_
  refine wp_seq ?_
  refine R.list ?_
  refine S.val hf hs (v := .string (ba y1)) rfl rfl rfl (V.pure rfl) (fun a hf => ?_)
  refine S.call hf rfl rfl rfl (call_fn (vs := [.string (ba y1)]) rfl rfl rfl Tryz.call125) (R_ref10_number y1 _  _ h) (fun v a w' hf hr => ?_)
  obtain ⟨y3, y4, rfl, h2, hs2⟩ := hr
  replace h := h2; replace hs := hs.call hs2; clear h2 hs2
  refine S.val hf hs (v := .tuple #[.int .i64 y3, .bool y4]) rfl rfl rfl (V.pure rfl) (fun a hf => ?_)
  refine S.val hf hs (v := .int .i64 y3) rfl rfl rfl (V.pure rfl) (fun a hf => ?_)
  refine S.val hf hs (v := .bool y4) rfl rfl rfl (V.pure rfl) (fun a hf => ?_)
  refine S.val hf hs (v := .int .i64 y3) rfl rfl rfl (V.pure rfl) (fun a hf => ?_)
  refine S.val hf hs (v := .bool y4) rfl rfl rfl (V.pure rfl) (fun a hf => ?_)
  refine R.nil ?_
  refine X.then_ ?_
  refine wp_seq ?_
  refine wp_seq ?_
  refine R.list ?_
  refine S.val hf hs (v := .bool y2) rfl rfl rfl (V.pure rfl) (fun a hf => ?_)
  refine S.val hf hs (v := .bool (!y2)) rfl rfl rfl (V.pure rfl) (fun a hf => ?_)
  refine R.nil ?_
  refine X.then_ ?_
  refine C.cond hf (b := !y2) rfl (fun hc => ?_) (fun hc => ?_)
  · replace h := h.1 hc
    refine wp_seq ?_
    refine R.list ?_
    refine S.val hf hs (v := .int .i64 y3) rfl rfl rfl (V.pure rfl) (fun a hf => ?_)
    refine S.val hf hs (v := .bool y4) rfl rfl rfl (V.pure rfl) (fun a hf => ?_)
    refine S.val hf hs (v := .int .i64 y3) rfl rfl rfl (V.pure rfl) (fun a hf => ?_)
    refine S.val hf hs (v := .bool y4) rfl rfl rfl (V.pure rfl) (fun a hf => ?_)
    refine R.nil ?_
    refine X.then_ ?_
    refine wp_ret ?_
    refine X.then_ret ?_
    exact L.ret hf (run_results2 Tryz.results126 (ResIs.tmp hf rfl) (ResIs.tmp hf rfl)) ⟨y3, y4, rfl, h, hs.nil⟩
  · replace h := h.2 hc
    refine wp_skip ?_
    refine X.then_ ?_
    refine wp_seq ?_
    refine R.list ?_
    refine S.val hf hs (v := .int .i64 y3) rfl rfl rfl (V.pure rfl) (fun a hf => ?_)
    refine S.val hf hs (v := .int .i64 (w64 (-y3))) rfl rfl rfl (V.pure rfl) (fun a hf => ?_)
    refine S.val hf hs (v := .bool y4) rfl rfl rfl (V.pure rfl) (fun a hf => ?_)
    refine S.split hf hs (b := y4) rfl rfl rfl (V.pure rfl) (fun hc a hf => ?_) (fun hc a hf => ?_)
    · replace h := h.1 hc
      refine S.val hf hs (v := .int .i64 y3) rfl rfl rfl (V.pure rfl) (fun a hf => ?_)
      refine S.val hf hs (v := .bool (y3 != 0)) rfl rfl rfl (V.pure rfl) (fun a hf => ?_)
      refine S.val hf hs (v := .bool (y3 != 0)) rfl rfl rfl (V.pure rfl) (fun a hf => ?_)
      refine S.val hf hs (v := .int .i64 (w64 (-y3))) rfl rfl rfl (V.pure rfl) (fun a hf => ?_)
      refine S.val hf hs (v := .bool (y3 != 0)) rfl rfl rfl (V.pure rfl) (fun a hf => ?_)
      refine R.nil ?_
      refine X.then_ ?_
      refine wp_ret ?_
      exact L.ret hf (run_results2 Tryz.results126 (ResIs.tmp hf rfl) (ResIs.tmp hf rfl)) ⟨(w64 (-y3)), (y3 != 0), rfl, h, hs.nil⟩
    · replace h := h.2 hc
      refine S.skip hf rfl rfl rfl (fun a hf => ?_)
      refine S.skip hf rfl rfl rfl (fun a hf => ?_)
      refine S.val hf hs (v := .bool false) rfl rfl rfl (V.pure rfl) (fun a hf => ?_)
      refine S.val hf hs (v := .int .i64 (w64 (-y3))) rfl rfl rfl (V.pure rfl) (fun a hf => ?_)
      refine S.val hf hs (v := .bool false) rfl rfl rfl (V.pure rfl) (fun a hf => ?_)
      refine R.nil ?_
      refine X.then_ ?_
      refine wp_ret ?_
      exact L.ret hf (run_results2 Tryz.results126 (ResIs.tmp hf rfl) (ResIs.tmp hf rfl)) ⟨(w64 (-y3)), false, rfl, h, hs.nil⟩

set_option linter.unusedVariables false
def M_ref10_isRow_k2 (Q : Bool → Prop) (n2 : Int) (again1 : Int → Prop) (c1 : Bool) : Prop :=
  cnd c1 (Q false) (again1 (w64 (n2 + 1)))
def M_ref10_isRow_L1 (s_ : Str) (Q : Bool → Prop) (again1 : Int → Prop) (n2 : Int) : Prop :=
  cnd (decide (n2 < (s_.length : Int))) (idx s_ n2 fun x1 => cnd (decide ((x1.toNat : Int) < 33)) (M_ref10_isRow_k2 Q n2 again1 true) (M_ref10_isRow_k2 Q n2 again1 (decide ((x1.toNat : Int) > 126)))) (Q (!(s_ == [])))
def M_ref10_isRow (s_ : Str) (Q : Bool → Prop) : Prop :=
  lp (fun again (s : Int) => M_ref10_isRow_L1 s_ Q (fun n2 => again n2) s) 0
set_option maxHeartbeats 1000000 in
theorem R_ref10_isRow (s_ : Str) (w0 : World)  (Q : Bool → Prop) (h : M_ref10_isRow s_ Q) :
    Ret Tryz.prog 124 #[.string (ba s_)] w0 fun v w' => ∃ (r0 : Bool), v = .bool r0 ∧ Q r0 ∧ Sat w0 none_ [] w' := by
  refine fn_enter Tryz.func124 rfl Tryz.ntmps124 rfl (fs := [(0, .string (ba s_))]) rfl (fun a hf => ?_)
  have hs := Sat.start w0 none_
  unfold M_ref10_isRow at h
  refine wp_seq ?_
  refine R.list ?_
  refine S.val hf hs (v := .bool false) rfl rfl rfl (V.pure rfl) (fun a hf => ?_)
  refine R.nil ?_
  refine X.then_ ?_
  refine wp_seq ?_
  refine wp_seq ?_
  refine R.list ?_
  refine S.val hf hs (v := .string (ba s_)) rfl rfl rfl (V.pure rfl) (fun a hf => ?_)
  refine S.val hf hs (v := .int .i64 (s_.length : Int)) rfl rfl rfl (V.lenStr rfl rfl Tryz.runUnderlying9) (fun a hf => ?_)
  refine S.val hf hs (v := .int .i64 0) rfl rfl rfl (V.pure rfl) (fun a hf => ?_)
  refine R.nil ?_
  refine X.then_ ?_
  refine wp_block ?_
  obtain ⟨kk, h⟩ := h
  refine C.loop (fun kk a w => ∃ (n2 : Int), iterF (fun again (s : Int) => M_ref10_isRow_L1 s_ Q (fun n2 => again n2) s) kk n2 ∧ FrOk 22 [(0, .string (ba s_)), (5, .int .i64 (s_.length : Int)), (6, .int .i64 n2)] a ∧ Sat w0 none_ [] w) kk ⟨0, h, (((hf.nil.cons (hf.get 6 _ rfl)).cons (hf.get 5 _ rfl)).cons (hf.get 0 _ rfl)), hs⟩ (fun a w ⟨_, h, _, _⟩ => h) ?_
  clear h hf hs
  rintro kk a w ⟨n2, h, hf, hs⟩
  obtain ⟨again1, hagain1⟩ : ∃ X : Int → Prop, X = (fun n2 => iterF (fun again (s : Int) => M_ref10_isRow_L1 s_ Q (fun n2 => again n2) s) kk n2) := ⟨_, rfl⟩
  replace h : M_ref10_isRow_L1 s_ Q again1 n2 := by rw [hagain1]; exact h
  unfold M_ref10_isRow_L1 at h
  refine wp_seq ?_
  refine R.list ?_
  refine S.val hf hs (v := .bool (decide (n2 < (s_.length : Int)))) rfl rfl rfl (V.pure rfl) (fun a hf => ?_)
  refine R.nil ?_
  refine X.then_ ?_
  refine wp_seq ?_
  refine C.cond hf (b := decide (n2 < (s_.length : Int))) rfl (fun hc => ?_) (fun hc => ?_)
  · replace h := h.1 hc
    refine wp_skip ?_
    refine X.then_ ?_
    refine wp_seq ?_
    refine wp_block ?_
    refine wp_seq ?_
    refine R.list ?_
    refine S.val hf hs (v := .int .i64 n2) rfl rfl rfl (V.pure rfl) (fun a hf => ?_)
    refine S.val hf hs (v := .int .i64 n2) rfl rfl rfl (V.pure rfl) (fun a hf => ?_)
    refine R.nil ?_
    refine X.then_ ?_
    refine wp_seq ?_
    refine C.cut (J := fun a w => ∃ (c1 : Bool), M_ref10_isRow_k2 Q n2 again1 c1 ∧ FrOk 22 [(0, .string (ba s_)), (5, .int .i64 (s_.length : Int)), (6, .int .i64 n2), (18, .bool c1)] a ∧ Sat w0 none_ [] w) ?_ ?_
    · rintro a w ⟨c1, h, hf, hs⟩
      unfold M_ref10_isRow_k2 at h
      refine C.cond hf (b := c1) rfl (fun hc => ?_) (fun hc => ?_)
      · replace h := h.1 hc
        refine wp_seq ?_
        refine R.list ?_
        refine S.val hf hs (v := .bool false) rfl rfl rfl (V.pure rfl) (fun a hf => ?_)
        refine R.nil ?_
        refine X.then_ ?_
        refine wp_ret ?_
        refine X.blk_ret ?_
        refine X.then_ret ?_
        refine X.then_ret ?_
        refine X.blk_ret ?_
        refine X.then_ret ?_
        exact L.ret hf (run_results1 Tryz.results124 (ResIs.tmp hf rfl)) ⟨false, rfl, h, hs.nil⟩
      · replace h := h.2 hc
        refine wp_skip ?_
        refine X.blk ?_
        refine X.then_ ?_
        refine R.list ?_
        refine S.val hf hs (v := .int .i64 (w64 (n2 + 1))) rfl rfl rfl (V.pure rfl) (fun a hf => ?_)
        refine S.val hf hs (v := .int .i64 (w64 (n2 + 1))) rfl rfl rfl (V.pure rfl) (fun a hf => ?_)
        refine R.nil ?_
        refine X.then_ ?_
        exact ⟨(w64 (n2 + 1)), (by rw [hagain1] at h; exact h), (((hf.nil.cons (hf.get 6 _ rfl)).cons (hf.get 5 _ rfl)).cons (hf.get 0 _ rfl)), hs⟩
    · skip
      refine R.list ?_
      refine S.val hf hs (v := .string (ba s_)) rfl rfl rfl (V.pure rfl) (fun a hf => ?_)
      refine S.val hf hs (v := .int .i64 n2) rfl rfl rfl (V.pure rfl) (fun a hf => ?_)
      obtain ⟨h0x1, x1, hx1, h⟩ := h
      refine S.val hf hs (v := .int .u8 (x1.toNat : Int)) rfl rfl rfl (V.indexStr rfl rfl rfl Tryz.runUnderlying9 h0x1 hx1) (fun a hf => ?_)
      refine S.val hf hs (v := .bool (decide ((x1.toNat : Int) < 33))) rfl rfl rfl (V.pure rfl) (fun a hf => ?_)
      refine S.split hf hs (b := decide ((x1.toNat : Int) < 33)) rfl rfl rfl (V.pure rfl) (fun hc a hf => ?_) (fun hc a hf => ?_)
      · replace h := h.1 hc
        refine S.skip hf rfl rfl rfl (fun a hf => ?_)
        refine S.skip hf rfl rfl rfl (fun a hf => ?_)
        refine S.skip hf rfl rfl rfl (fun a hf => ?_)
        refine S.skip hf rfl rfl rfl (fun a hf => ?_)
        refine S.val hf hs (v := .bool true) rfl rfl rfl (V.pure rfl) (fun a hf => ?_)
        refine R.nil ?_
        refine X.then_ ?_
        exact ⟨true, h, ((((hf.nil.cons (hf.get 18 _ rfl)).cons (hf.get 6 _ rfl)).cons (hf.get 5 _ rfl)).cons (hf.get 0 _ rfl)), hs⟩
      · replace h := h.2 hc
        refine S.val hf hs (v := .string (ba s_)) rfl rfl rfl (V.pure rfl) (fun a hf => ?_)
        refine S.val hf hs (v := .int .i64 n2) rfl rfl rfl (V.pure rfl) (fun a hf => ?_)
        refine S.val hf hs (v := .int .u8 (x1.toNat : Int)) rfl rfl rfl (V.indexStr rfl rfl rfl Tryz.runUnderlying9 h0x1 hx1) (fun a hf => ?_)
        refine S.val hf hs (v := .bool (decide ((x1.toNat : Int) > 126))) rfl rfl rfl (V.pure rfl) (fun a hf => ?_)
        refine S.val hf hs (v := .bool (decide ((x1.toNat : Int) > 126))) rfl rfl rfl (V.pure rfl) (fun a hf => ?_)
        refine R.nil ?_
        refine X.then_ ?_
        exact ⟨(decide ((x1.toNat : Int) > 126)), h, ((((hf.nil.cons (hf.get 18 _ rfl)).cons (hf.get 6 _ rfl)).cons (hf.get 5 _ rfl)).cons (hf.get 0 _ rfl)), hs⟩
  · replace h := h.2 hc
    refine wp_exit ?_
    refine X.then_exit ?_
    refine X.then_exit ?_
    refine X.blk_exit ?_
    refine X.then_ ?_
    refine wp_seq ?_
    refine R.list ?_
    refine S.val hf hs (v := .string (ba s_)) rfl rfl rfl (V.pure rfl) (fun a hf => ?_)
    refine S.val hf hs (v := .bool (!(s_ == []))) rfl rfl rfl (V.strCmp (!(s_ == [])) rfl rfl rfl rfl) (fun a hf => ?_)
    refine S.val hf hs (v := .bool (!(s_ == []))) rfl rfl rfl (V.pure rfl) (fun a hf => ?_)
    refine R.nil ?_
    refine X.then_ ?_
    refine wp_ret ?_
    exact L.ret hf (run_results1 Tryz.results124 (ResIs.tmp hf rfl)) ⟨(!(s_ == [])), rfl, h, hs.nil⟩

set_option linter.unusedVariables false
def M_ref10_readBody_k1 (w_ : (List Str)) (Q : Body → Bool → Prop) (c1 : Bool) : Prop :=
  cnd c1 (Q (⟨[], 0, 0, 0, []⟩ : Body) false) (idx w_ 2 fun x1 => M_ref10_number x1 fun y1 y2 => idx w_ 3 fun x2 => M_ref10_number x2 fun y3 y4 => idx w_ 4 fun x3 => M_ref10_number x3 fun y5 y6 => idx w_ 1 fun x4 => idx w_ 5 fun x5 => cnd y2 (cnd y4 (Q (⟨x4, y1, y3, y5, x5⟩ : Body) y6) (Q (⟨x4, y1, y3, y5, x5⟩ : Body) false)) (Q (⟨x4, y1, y3, y5, x5⟩ : Body) false))
def M_ref10_readBody (w_ : (List Str)) (Q : Body → Bool → Prop) : Prop :=
  cnd ((w_.length : Int) != 6) (M_ref10_readBody_k1 w_ Q true) (idx w_ 1 fun x6 => M_ref10_isRow x6 fun y7 => cnd (!y7) (M_ref10_readBody_k1 w_ Q true) (idx w_ 5 fun x7 => M_ref10_isRow x7 fun y8 => M_ref10_readBody_k1 w_ Q (!y8)))
set_option maxHeartbeats 1000000 in
theorem R_ref10_readBody (w_ : (List Str)) (w0 : World) (w_A : Option Addr) (w_C : Nat) (hv_w_ : View w0 (old w0 none_) w_A w_C w_) (Q : Body → Bool → Prop) (h : M_ref10_readBody w_ Q) :
    Ret Tryz.prog 60 #[.slice w_A w_.length w_C] w0 fun v w' => ∃ (r0 : Body) (r1 : Bool), v = .tuple #[.agg #[.string (ba r0.Typ), .int .i64 r0.W, .int .i64 r0.H, .int .i64 r0.Tall, .string (ba r0.Nozzle)], .bool r1] ∧ Q r0 r1 ∧ Sat w0 none_ [] w' := by
  refine fn_enter Tryz.func60 rfl Tryz.ntmps60 rfl (fs := [(0, .slice w_A w_.length w_C)]) rfl (fun a hf => ?_)
  have hs := Sat.start w0 none_
  unfold M_ref10_readBody at h
  refine wp_seq ?_
  refine R.list ?_
  refine S.alloc hf hs rfl rfl rfl [.string (ba []), .int .i64 0, .int .i64 0, .int .i64 0, .string (ba [])] rfl Tryz.zeroValue52 rfl (fun g1 a w hf hs => ?_)
  refine S.val hf hs (v := .bool false) rfl rfl rfl (V.pure rfl) (fun a hf => ?_)
  refine R.nil ?_
  refine X.then_ ?_
  refine wp_seq ?_
  refine wp_seq ?_
  refine C.cut (J := fun a w => ∃ (c1 : Bool), M_ref10_readBody_k1 w_ Q c1 ∧ FrOk 66 [(0, .slice w_A w_.length w_C), (2, .pointer (some ⟨g1, 0, none⟩)), (26, .bool c1)] a ∧ Sat w0 none_ [hbox g1 52 [.string (ba []), .int .i64 0, .int .i64 0, .int .i64 0, .string (ba [])]] w) ?_ ?_
  · rintro a w ⟨c1, h, hf, hs⟩
    unfold M_ref10_readBody_k1 at h
    refine C.cond hf (b := c1) rfl (fun hc => ?_) (fun hc => ?_)
    · replace h := h.1 hc
      refine wp_seq ?_
      refine R.list ?_
      refine S.val hf hs (v := .agg #[.string (ba []), .int .i64 0, .int .i64 0, .int .i64 0, .string (ba [])]) rfl rfl rfl (V.build (places := #[(0, 1), (1, 1), (2, 1), (3, 1), (4, 1)]) rfl Tryz.zeroValue52 Tryz.runUnderlying52 (by intro w; simp [Tryz.sizeOf3, Tryz.sizeOf9]) rfl rfl) (fun a hf => ?_)
      refine S.storeBox 0 hf hs rfl rfl [.string (ba []), .int .i64 0, .int .i64 0, .int .i64 0, .string (ba [])] [.string (ba []), .int .i64 0, .int .i64 0, .int .i64 0, .string (ba [])] rfl rfl rfl rfl rfl Tryz.sizeOf52 rfl rfl rfl rfl (fun a w hf hs => ?_)
      refine S.val hf hs (v := .bool false) rfl rfl rfl (V.pure rfl) (fun a hf => ?_)
      refine R.nil ?_
      refine X.then_ ?_
      refine wp_ret ?_
      refine X.then_ret ?_
      exact L.ret hf (run_results2 Tryz.results60 (ResIs.box hf hs 0 rfl rfl Tryz.isAgg52 Tryz.sizeOf52 rfl rfl) (ResIs.tmp hf rfl)) ⟨(⟨[], 0, 0, 0, []⟩ : Body), false, rfl, h, hs.nil⟩
    · replace h := h.2 hc
      refine wp_skip ?_
      refine X.then_ ?_
      refine wp_seq ?_
      refine R.list ?_
      refine S.val hf hs (v := .slice w_A w_.length w_C) rfl rfl rfl (V.pure rfl) (fun a hf => ?_)
      obtain ⟨h0x1, x1, hx1, h⟩ := h
      refine S.val hf hs (v := elemPtr w_A (2 * 1)) rfl rfl rfl (V.index rfl rfl rfl Tryz.runUnderlying74 Tryz.sizeOf9 (hv_w_.some_ (lt_of_get hx1)) h0x1 (lt_of_get hx1) rfl) (fun a hf => ?_)
      refine S.val hf hs (v := .string (ba x1)) rfl rfl rfl (V.loadEl (off := 0) (Ag.args _ _ _) (hv_w_.flat hx1) rfl rfl rfl Tryz.isAgg9 Tryz.sizeOf9 rfl rfl) (fun a hf => ?_)
      refine S.call hf rfl rfl rfl (call_fn (vs := [.string (ba x1)]) rfl rfl rfl Tryz.call125) (R_ref10_number x1 _  _ h) (fun v a w' hf hr => ?_)
      obtain ⟨y1, y2, rfl, h2, hs2⟩ := hr
      replace h := h2; replace hs := hs.call hs2; clear h2 hs2
      refine S.val hf hs (v := .tuple #[.int .i64 y1, .bool y2]) rfl rfl rfl (V.pure rfl) (fun a hf => ?_)
      refine S.val hf hs (v := .int .i64 y1) rfl rfl rfl (V.pure rfl) (fun a hf => ?_)
      refine S.val hf hs (v := .bool y2) rfl rfl rfl (V.pure rfl) (fun a hf => ?_)
      refine S.val hf hs (v := .int .i64 y1) rfl rfl rfl (V.pure rfl) (fun a hf => ?_)
      refine S.val hf hs (v := .bool y2) rfl rfl rfl (V.pure rfl) (fun a hf => ?_)
      refine R.nil ?_
      refine X.then_ ?_
      refine wp_seq ?_
      refine R.list ?_
      refine S.val hf hs (v := .slice w_A w_.length w_C) rfl rfl rfl (V.pure rfl) (fun a hf => ?_)
      obtain ⟨h0x2, x2, hx2, h⟩ := h
      refine S.val hf hs (v := elemPtr w_A (3 * 1)) rfl rfl rfl (V.index rfl rfl rfl Tryz.runUnderlying74 Tryz.sizeOf9 (hv_w_.some_ (lt_of_get hx2)) h0x2 (lt_of_get hx2) rfl) (fun a hf => ?_)
      refine S.val hf hs (v := .string (ba x2)) rfl rfl rfl (V.loadEl (off := 0) (Ag.args _ _ _) (hv_w_.flat hx2) rfl rfl rfl Tryz.isAgg9 Tryz.sizeOf9 rfl rfl) (fun a hf => ?_)
      refine S.call hf rfl rfl rfl (call_fn (vs := [.string (ba x2)]) rfl rfl rfl Tryz.call125) (R_ref10_number x2 _  _ h) (fun v a w' hf hr => ?_)
      obtain ⟨y3, y4, rfl, h2, hs2⟩ := hr
      replace h := h2; replace hs := hs.call hs2; clear h2 hs2
      refine S.val hf hs (v := .tuple #[.int .i64 y3, .bool y4]) rfl rfl rfl (V.pure rfl) (fun a hf => ?_)
      refine S.val hf hs (v := .int .i64 y3) rfl rfl rfl (V.pure rfl) (fun a hf => ?_)
      refine S.val hf hs (v := .bool y4) rfl rfl rfl (V.pure rfl) (fun a hf => ?_)
      refine S.val hf hs (v := .int .i64 y3) rfl rfl rfl (V.pure rfl) (fun a hf => ?_)
      refine S.val hf hs (v := .bool y4) rfl rfl rfl (V.pure rfl) (fun a hf => ?_)
      refine R.nil ?_
      refine X.then_ ?_
      refine wp_seq ?_
      refine R.list ?_
      refine S.val hf hs (v := .slice w_A w_.length w_C) rfl rfl rfl (V.pure rfl) (fun a hf => ?_)
      obtain ⟨h0x3, x3, hx3, h⟩ := h
      refine S.val hf hs (v := elemPtr w_A (4 * 1)) rfl rfl rfl (V.index rfl rfl rfl Tryz.runUnderlying74 Tryz.sizeOf9 (hv_w_.some_ (lt_of_get hx3)) h0x3 (lt_of_get hx3) rfl) (fun a hf => ?_)
      refine S.val hf hs (v := .string (ba x3)) rfl rfl rfl (V.loadEl (off := 0) (Ag.args _ _ _) (hv_w_.flat hx3) rfl rfl rfl Tryz.isAgg9 Tryz.sizeOf9 rfl rfl) (fun a hf => ?_)
      refine S.call hf rfl rfl rfl (call_fn (vs := [.string (ba x3)]) rfl rfl rfl Tryz.call125) (R_ref10_number x3 _  _ h) (fun v a w' hf hr => ?_)
      obtain ⟨y5, y6, rfl, h2, hs2⟩ := hr
      replace h := h2; replace hs := hs.call hs2; clear h2 hs2
      refine S.val hf hs (v := .tuple #[.int .i64 y5, .bool y6]) rfl rfl rfl (V.pure rfl) (fun a hf => ?_)
      refine S.val hf hs (v := .int .i64 y5) rfl rfl rfl (V.pure rfl) (fun a hf => ?_)
      refine S.val hf hs (v := .bool y6) rfl rfl rfl (V.pure rfl) (fun a hf => ?_)
      refine S.val hf hs (v := .int .i64 y5) rfl rfl rfl (V.pure rfl) (fun a hf => ?_)
      refine S.val hf hs (v := .bool y6) rfl rfl rfl (V.pure rfl) (fun a hf => ?_)
      refine R.nil ?_
      refine X.then_ ?_
      refine wp_seq ?_
      refine H.start (S := Sat w0 none_ []) mo ?_
      replace hs := hs.drew
      refine H.val hf hs.nil (v := .slice w_A w_.length w_C) (i := 0) rfl rfl rfl rfl (by kernel_rfl) (by kernel_rfl) (by kernel_rfl) (V.pure rfl) (fun a hf => ?_)
      obtain ⟨h0x4, x4, hx4, h⟩ := h
      refine H.val hf hs.nil (v := elemPtr w_A (1 * 1)) (i := 1) rfl rfl rfl rfl (by kernel_rfl) (by kernel_rfl) (by kernel_rfl) (V.index rfl rfl rfl Tryz.runUnderlying74 Tryz.sizeOf9 (hv_w_.some_ (lt_of_get hx4)) h0x4 (lt_of_get hx4) rfl) (fun a hf => ?_)
      refine H.val hf hs.nil (v := .string (ba x4)) (i := 2) rfl rfl rfl rfl (by kernel_rfl) (by kernel_rfl) (by kernel_rfl) (V.loadEl (off := 0) (Ag.args _ _ _) (hv_w_.flat hx4) rfl rfl rfl Tryz.isAgg9 Tryz.sizeOf9 rfl rfl) (fun a hf => ?_)
      refine H.val hf hs.nil (v := .int .i64 y1) (i := 3) rfl rfl rfl rfl (by kernel_rfl) (by kernel_rfl) (by kernel_rfl) (V.pure rfl) (fun a hf => ?_)
      refine H.val hf hs.nil (v := .int .i64 y3) (i := 4) rfl rfl rfl rfl (by kernel_rfl) (by kernel_rfl) (by kernel_rfl) (V.pure rfl) (fun a hf => ?_)
      refine H.val hf hs.nil (v := .int .i64 y5) (i := 5) rfl rfl rfl rfl (by kernel_rfl) (by kernel_rfl) (by kernel_rfl) (V.pure rfl) (fun a hf => ?_)
      refine H.val hf hs.nil (v := .slice w_A w_.length w_C) (i := 6) rfl rfl rfl rfl (by kernel_rfl) (by kernel_rfl) (by kernel_rfl) (V.pure rfl) (fun a hf => ?_)
      obtain ⟨h0x5, x5, hx5, h⟩ := h
      refine H.val hf hs.nil (v := elemPtr w_A (5 * 1)) (i := 7) rfl rfl rfl rfl (by kernel_rfl) (by kernel_rfl) (by kernel_rfl) (V.index rfl rfl rfl Tryz.runUnderlying74 Tryz.sizeOf9 (hv_w_.some_ (lt_of_get hx5)) h0x5 (lt_of_get hx5) rfl) (fun a hf => ?_)
      refine H.val hf hs.nil (v := .string (ba x5)) (i := 8) rfl rfl rfl rfl (by kernel_rfl) (by kernel_rfl) (by kernel_rfl) (V.loadEl (off := 0) (Ag.args _ _ _) (hv_w_.flat hx5) rfl rfl rfl Tryz.isAgg9 Tryz.sizeOf9 rfl rfl) (fun a hf => ?_)
      refine H.val hf hs.nil (v := .bool y2) (i := 10) rfl rfl rfl rfl (by kernel_rfl) (by kernel_rfl) (by kernel_rfl) (V.pure rfl) (fun a hf => ?_)
      refine H.split hf hs.nil (b := y2) (i := 11) rfl rfl rfl rfl (by kernel_rfl) (by kernel_rfl) (by kernel_rfl) (V.pure rfl) (fun hc a hf => ?_) (fun hc a hf => ?_)
      · replace h := h.1 hc
        refine H.val hf hs.nil (v := .bool y4) (i := 12) rfl rfl rfl rfl (by kernel_rfl) (by kernel_rfl) (by kernel_rfl) (V.pure rfl) (fun a hf => ?_)
        refine H.val hf hs.nil (v := .bool y4) (i := 13) rfl rfl rfl rfl (by kernel_rfl) (by kernel_rfl) (by kernel_rfl) (V.pure rfl) (fun a hf => ?_)
        refine H.split hf hs.nil (b := y4) (i := 14) rfl rfl rfl rfl (by kernel_rfl) (by kernel_rfl) (by kernel_rfl) (V.pure rfl) (fun hc a hf => ?_) (fun hc a hf => ?_)
        · replace h := h.1 hc
          refine H.val hf hs.nil (v := .bool y6) (i := 15) rfl rfl rfl rfl (by kernel_rfl) (by kernel_rfl) (by kernel_rfl) (V.pure rfl) (fun a hf => ?_)
          refine H.val hf hs.nil (v := .bool y6) (i := 16) rfl rfl rfl rfl (by kernel_rfl) (by kernel_rfl) (by kernel_rfl) (V.pure rfl) (fun a hf => ?_)
          refine H.one (i := 9) rfl (by kernel_rfl) ?_
          refine S.val hf hs (v := .agg #[.string (ba x4), .int .i64 y1, .int .i64 y3, .int .i64 y5, .string (ba x5)]) rfl rfl rfl (V.build (places := #[(0, 1), (1, 1), (2, 1), (3, 1), (4, 1)]) rfl Tryz.zeroValue52 Tryz.runUnderlying52 (by intro w; simp [Tryz.sizeOf3, Tryz.sizeOf9]) rfl rfl) (fun a hf => ?_)
          refine R.nil ?_
          refine X.then_ ?_
          refine ⟨hs.nil, ?_⟩
          refine H.one (i := 17) rfl (by kernel_rfl) ?_
          refine S.storeBox 0 hf hs rfl rfl [.string (ba x4), .int .i64 y1, .int .i64 y3, .int .i64 y5, .string (ba x5)] [.string (ba x4), .int .i64 y1, .int .i64 y3, .int .i64 y5, .string (ba x5)] rfl rfl rfl rfl rfl Tryz.sizeOf52 rfl rfl rfl rfl (fun a w hf hs => ?_)
          refine R.nil ?_
          refine X.then_ ?_
          refine ⟨hs.nil, ?_⟩
          refine H.val hf hs.nil (v := .bool y6) (i := 18) rfl rfl rfl rfl (by kernel_rfl) (by kernel_rfl) (by kernel_rfl) (V.pure rfl) (fun a hf => ?_)
          refine H.done (by kernel_rfl) ?_
          refine X.then_ ?_
          refine wp_ret ?_
          exact L.ret hf (run_results2 Tryz.results60 (ResIs.box hf hs 0 rfl rfl Tryz.isAgg52 Tryz.sizeOf52 rfl rfl) (ResIs.tmp hf rfl)) ⟨(⟨x4, y1, y3, y5, x5⟩ : Body), y6, rfl, h, hs.nil⟩
        · replace h := h.2 hc
          refine H.skip hf hs.nil (i := 15) rfl rfl rfl rfl (by kernel_rfl) (by kernel_rfl) (by kernel_rfl) (fun a hf => ?_)
          refine H.val hf hs.nil (v := .bool false) (i := 16) rfl rfl rfl rfl (by kernel_rfl) (by kernel_rfl) (by kernel_rfl) (V.pure rfl) (fun a hf => ?_)
          refine H.one (i := 9) rfl (by kernel_rfl) ?_
          refine S.val hf hs (v := .agg #[.string (ba x4), .int .i64 y1, .int .i64 y3, .int .i64 y5, .string (ba x5)]) rfl rfl rfl (V.build (places := #[(0, 1), (1, 1), (2, 1), (3, 1), (4, 1)]) rfl Tryz.zeroValue52 Tryz.runUnderlying52 (by intro w; simp [Tryz.sizeOf3, Tryz.sizeOf9]) rfl rfl) (fun a hf => ?_)
          refine R.nil ?_
          refine X.then_ ?_
          refine ⟨hs.nil, ?_⟩
          refine H.one (i := 17) rfl (by kernel_rfl) ?_
          refine S.storeBox 0 hf hs rfl rfl [.string (ba x4), .int .i64 y1, .int .i64 y3, .int .i64 y5, .string (ba x5)] [.string (ba x4), .int .i64 y1, .int .i64 y3, .int .i64 y5, .string (ba x5)] rfl rfl rfl rfl rfl Tryz.sizeOf52 rfl rfl rfl rfl (fun a w hf hs => ?_)
          refine R.nil ?_
          refine X.then_ ?_
          refine ⟨hs.nil, ?_⟩
          refine H.val hf hs.nil (v := .bool false) (i := 18) rfl rfl rfl rfl (by kernel_rfl) (by kernel_rfl) (by kernel_rfl) (V.pure rfl) (fun a hf => ?_)
          refine H.done (by kernel_rfl) ?_
          refine X.then_ ?_
          refine wp_ret ?_
          exact L.ret hf (run_results2 Tryz.results60 (ResIs.box hf hs 0 rfl rfl Tryz.isAgg52 Tryz.sizeOf52 rfl rfl) (ResIs.tmp hf rfl)) ⟨(⟨x4, y1, y3, y5, x5⟩ : Body), false, rfl, h, hs.nil⟩
      · replace h := h.2 hc
        refine H.skip hf hs.nil (i := 12) rfl rfl rfl rfl (by kernel_rfl) (by kernel_rfl) (by kernel_rfl) (fun a hf => ?_)
        refine H.val hf hs.nil (v := .bool false) (i := 13) rfl rfl rfl rfl (by kernel_rfl) (by kernel_rfl) (by kernel_rfl) (V.pure rfl) (fun a hf => ?_)
        refine H.val hf hs.nil (v := .bool false) (i := 14) rfl rfl rfl rfl (by kernel_rfl) (by kernel_rfl) (by kernel_rfl) (V.pure rfl) (fun a hf => ?_)
        refine H.skip hf hs.nil (i := 15) rfl rfl rfl rfl (by kernel_rfl) (by kernel_rfl) (by kernel_rfl) (fun a hf => ?_)
        refine H.val hf hs.nil (v := .bool false) (i := 16) rfl rfl rfl rfl (by kernel_rfl) (by kernel_rfl) (by kernel_rfl) (V.pure rfl) (fun a hf => ?_)
        refine H.one (i := 9) rfl (by kernel_rfl) ?_
        refine S.val hf hs (v := .agg #[.string (ba x4), .int .i64 y1, .int .i64 y3, .int .i64 y5, .string (ba x5)]) rfl rfl rfl (V.build (places := #[(0, 1), (1, 1), (2, 1), (3, 1), (4, 1)]) rfl Tryz.zeroValue52 Tryz.runUnderlying52 (by intro w; simp [Tryz.sizeOf3, Tryz.sizeOf9]) rfl rfl) (fun a hf => ?_)
        refine R.nil ?_
        refine X.then_ ?_
        refine ⟨hs.nil, ?_⟩
        refine H.one (i := 17) rfl (by kernel_rfl) ?_
        refine S.storeBox 0 hf hs rfl rfl [.string (ba x4), .int .i64 y1, .int .i64 y3, .int .i64 y5, .string (ba x5)] [.string (ba x4), .int .i64 y1, .int .i64 y3, .int .i64 y5, .string (ba x5)] rfl rfl rfl rfl rfl Tryz.sizeOf52 rfl rfl rfl rfl (fun a w hf hs => ?_)
        refine R.nil ?_
        refine X.then_ ?_
        refine ⟨hs.nil, ?_⟩
        refine H.val hf hs.nil (v := .bool false) (i := 18) rfl rfl rfl rfl (by kernel_rfl) (by kernel_rfl) (by kernel_rfl) (V.pure rfl) (fun a hf => ?_)
        refine H.done (by kernel_rfl) ?_
        refine X.then_ ?_
        refine wp_ret ?_
        exact L.ret hf (run_results2 Tryz.results60 (ResIs.box hf hs 0 rfl rfl Tryz.isAgg52 Tryz.sizeOf52 rfl rfl) (ResIs.tmp hf rfl)) ⟨(⟨x4, y1, y3, y5, x5⟩ : Body), false, rfl, h, hs.nil⟩
  · skip
    refine R.list ?_
    refine S.val hf hs (v := .slice w_A w_.length w_C) rfl rfl rfl (V.pure rfl) (fun a hf => ?_)
    refine S.val hf hs (v := .int .i64 (w_.length : Int)) rfl rfl rfl (V.len rfl rfl Tryz.runUnderlying74) (fun a hf => ?_)
    refine S.val hf hs (v := .bool ((w_.length : Int) != 6)) rfl rfl rfl (V.pure rfl) (fun a hf => ?_)
    refine S.split hf hs (b := (w_.length : Int) != 6) rfl rfl rfl (V.pure rfl) (fun hc a hf => ?_) (fun hc a hf => ?_)
    · replace h := h.1 hc
      refine S.skip hf rfl rfl rfl (fun a hf => ?_)
      refine S.skip hf rfl rfl rfl (fun a hf => ?_)
      refine S.skip hf rfl rfl rfl (fun a hf => ?_)
      refine S.skip hf rfl rfl rfl (fun a hf => ?_)
      refine S.skip hf rfl rfl rfl (fun a hf => ?_)
      refine S.val hf hs (v := .bool true) rfl rfl rfl (V.pure rfl) (fun a hf => ?_)
      refine S.val hf hs (v := .bool true) rfl rfl rfl (V.pure rfl) (fun a hf => ?_)
      refine S.skip hf rfl rfl rfl (fun a hf => ?_)
      refine S.skip hf rfl rfl rfl (fun a hf => ?_)
      refine S.skip hf rfl rfl rfl (fun a hf => ?_)
      refine S.skip hf rfl rfl rfl (fun a hf => ?_)
      refine S.skip hf rfl rfl rfl (fun a hf => ?_)
      refine S.val hf hs (v := .bool true) rfl rfl rfl (V.pure rfl) (fun a hf => ?_)
      refine R.nil ?_
      refine X.then_ ?_
      exact ⟨true, h, (((hf.nil.cons (hf.get 26 _ rfl)).cons (hf.get 2 _ rfl)).cons (hf.get 0 _ rfl)), hs⟩
    · replace h := h.2 hc
      refine S.val hf hs (v := .slice w_A w_.length w_C) rfl rfl rfl (V.pure rfl) (fun a hf => ?_)
      obtain ⟨h0x6, x6, hx6, h⟩ := h
      refine S.val hf hs (v := elemPtr w_A (1 * 1)) rfl rfl rfl (V.index rfl rfl rfl Tryz.runUnderlying74 Tryz.sizeOf9 (hv_w_.some_ (lt_of_get hx6)) h0x6 (lt_of_get hx6) rfl) (fun a hf => ?_)
      refine S.val hf hs (v := .string (ba x6)) rfl rfl rfl (V.loadEl (off := 0) (Ag.args _ _ _) (hv_w_.flat hx6) rfl rfl rfl Tryz.isAgg9 Tryz.sizeOf9 rfl rfl) (fun a hf => ?_)
      refine S.call hf rfl rfl rfl (call_fn (vs := [.string (ba x6)]) rfl rfl rfl Tryz.call124) (R_ref10_isRow x6 _  _ h) (fun v a w' hf hr => ?_)
      obtain ⟨y7, rfl, h2, hs2⟩ := hr
      replace h := h2; replace hs := hs.call hs2; clear h2 hs2
      refine S.val hf hs (v := .bool (!y7)) rfl rfl rfl (V.pure rfl) (fun a hf => ?_)
      refine S.val hf hs (v := .bool (!y7)) rfl rfl rfl (V.pure rfl) (fun a hf => ?_)
      refine S.split hf hs (b := !y7) rfl rfl rfl (V.pure rfl) (fun hc a hf => ?_) (fun hc a hf => ?_)
      · replace h := h.1 hc
        refine S.skip hf rfl rfl rfl (fun a hf => ?_)
        refine S.skip hf rfl rfl rfl (fun a hf => ?_)
        refine S.skip hf rfl rfl rfl (fun a hf => ?_)
        refine S.skip hf rfl rfl rfl (fun a hf => ?_)
        refine S.skip hf rfl rfl rfl (fun a hf => ?_)
        refine S.val hf hs (v := .bool true) rfl rfl rfl (V.pure rfl) (fun a hf => ?_)
        refine R.nil ?_
        refine X.then_ ?_
        exact ⟨true, h, (((hf.nil.cons (hf.get 26 _ rfl)).cons (hf.get 2 _ rfl)).cons (hf.get 0 _ rfl)), hs⟩
      · replace h := h.2 hc
        refine S.val hf hs (v := .slice w_A w_.length w_C) rfl rfl rfl (V.pure rfl) (fun a hf => ?_)
        obtain ⟨h0x7, x7, hx7, h⟩ := h
        refine S.val hf hs (v := elemPtr w_A (5 * 1)) rfl rfl rfl (V.index rfl rfl rfl Tryz.runUnderlying74 Tryz.sizeOf9 (hv_w_.some_ (lt_of_get hx7)) h0x7 (lt_of_get hx7) rfl) (fun a hf => ?_)
        refine S.val hf hs (v := .string (ba x7)) rfl rfl rfl (V.loadEl (off := 0) (Ag.args _ _ _) (hv_w_.flat hx7) rfl rfl rfl Tryz.isAgg9 Tryz.sizeOf9 rfl rfl) (fun a hf => ?_)
        refine S.call hf rfl rfl rfl (call_fn (vs := [.string (ba x7)]) rfl rfl rfl Tryz.call124) (R_ref10_isRow x7 _  _ h) (fun v a w' hf hr => ?_)
        obtain ⟨y8, rfl, h2, hs2⟩ := hr
        replace h := h2; replace hs := hs.call hs2; clear h2 hs2
        refine S.val hf hs (v := .bool (!y8)) rfl rfl rfl (V.pure rfl) (fun a hf => ?_)
        refine S.val hf hs (v := .bool (!y8)) rfl rfl rfl (V.pure rfl) (fun a hf => ?_)
        refine R.nil ?_
        refine X.then_ ?_
        exact ⟨(!y8), h, (((hf.nil.cons (hf.get 26 _ rfl)).cons (hf.get 2 _ rfl)).cons (hf.get 0 _ rfl)), hs⟩

set_option linter.unusedVariables false
def M_ref10_readPlace_k1 (w_ : (List Str)) (Q : Place → Bool → Prop) (c1 : Bool) : Prop :=
  cnd c1 (Q (⟨[], [], (⟨0, 0⟩ : Point), 0, false⟩ : Place) false) (idx w_ 3 fun x1 => M_ref10_signed x1 fun y1 y2 => idx w_ 4 fun x2 => M_ref10_signed x2 fun y3 y4 => idx w_ 5 fun x3 => M_ref10_number x3 fun y5 y6 => idx w_ 1 fun x4 => idx w_ 2 fun x5 => idx w_ 6 fun x6 => cnd y2 (cnd y4 (Q (⟨x4, x5, (⟨y1, y3⟩ : Point), y5, x6 == [100, 111, 119, 110]⟩ : Place) y6) (Q (⟨x4, x5, (⟨y1, y3⟩ : Point), y5, x6 == [100, 111, 119, 110]⟩ : Place) false)) (Q (⟨x4, x5, (⟨y1, y3⟩ : Point), y5, x6 == [100, 111, 119, 110]⟩ : Place) false))
def M_ref10_readPlace (w_ : (List Str)) (Q : Place → Bool → Prop) : Prop :=
  cnd ((w_.length : Int) != 7) (M_ref10_readPlace_k1 w_ Q true) (idx w_ 1 fun x7 => M_ref10_isRow x7 fun y7 => cnd (!y7) (M_ref10_readPlace_k1 w_ Q true) (idx w_ 2 fun x8 => M_ref10_isRow x8 fun y8 => cnd (!y8) (M_ref10_readPlace_k1 w_ Q true) (idx w_ 6 fun x9 => cnd (!(x9 == [117, 112])) (M_ref10_readPlace_k1 w_ Q (!(x9 == [100, 111, 119, 110]))) (M_ref10_readPlace_k1 w_ Q false))))
set_option maxHeartbeats 1000000 in
theorem R_ref10_readPlace (w_ : (List Str)) (w0 : World) (w_A : Option Addr) (w_C : Nat) (hv_w_ : View w0 (old w0 none_) w_A w_C w_) (Q : Place → Bool → Prop) (h : M_ref10_readPlace w_ Q) :
    Ret Tryz.prog 61 #[.slice w_A w_.length w_C] w0 fun v w' => ∃ (r0 : Place) (r1 : Bool), v = .tuple #[.agg #[.string (ba r0.Part), .string (ba r0.Typ), .int .i64 r0.At.X, .int .i64 r0.At.Y, .int .i64 r0.Quarters, .bool r0.Below], .bool r1] ∧ Q r0 r1 ∧ Sat w0 none_ [] w' := by
  refine fn_enter Tryz.func61 rfl Tryz.ntmps61 rfl (fs := [(0, .slice w_A w_.length w_C)]) rfl (fun a hf => ?_)
  have hs := Sat.start w0 none_
  unfold M_ref10_readPlace at h
  refine wp_seq ?_
  refine R.list ?_
  refine S.alloc hf hs rfl rfl rfl [.string (ba []), .string (ba []), .int .i64 0, .int .i64 0, .int .i64 0, .bool false] rfl Tryz.zeroValue57 rfl (fun g1 a w hf hs => ?_)
  refine S.val hf hs (v := .bool false) rfl rfl rfl (V.pure rfl) (fun a hf => ?_)
  refine R.nil ?_
  refine X.then_ ?_
  refine wp_seq ?_
  refine wp_seq ?_
  refine C.cut (J := fun a w => ∃ (c1 : Bool), M_ref10_readPlace_k1 w_ Q c1 ∧ FrOk 83 [(0, .slice w_A w_.length w_C), (2, .pointer (some ⟨g1, 0, none⟩)), (38, .bool c1)] a ∧ Sat w0 none_ [hbox g1 57 [.string (ba []), .string (ba []), .int .i64 0, .int .i64 0, .int .i64 0, .bool false]] w) ?_ ?_
  · rintro a w ⟨c1, h, hf, hs⟩
    unfold M_ref10_readPlace_k1 at h
    refine C.cond hf (b := c1) rfl (fun hc => ?_) (fun hc => ?_)
    · replace h := h.1 hc
      refine wp_seq ?_
      refine R.list ?_
      refine S.val hf hs (v := .agg #[.string (ba []), .string (ba []), .int .i64 0, .int .i64 0, .int .i64 0, .bool false]) rfl rfl rfl (V.build (places := #[(0, 1), (1, 1), (2, 2), (4, 1), (5, 1)]) rfl Tryz.zeroValue57 Tryz.runUnderlying57 (by intro w; simp [Tryz.sizeOf3, Tryz.sizeOf4, Tryz.sizeOf55, Tryz.sizeOf9]) rfl (by kernel_rfl)) (fun a hf => ?_)
      refine S.storeBox 0 hf hs rfl rfl [.string (ba []), .string (ba []), .int .i64 0, .int .i64 0, .int .i64 0, .bool false] [.string (ba []), .string (ba []), .int .i64 0, .int .i64 0, .int .i64 0, .bool false] rfl rfl rfl rfl rfl Tryz.sizeOf57 rfl rfl rfl rfl (fun a w hf hs => ?_)
      refine S.val hf hs (v := .bool false) rfl rfl rfl (V.pure rfl) (fun a hf => ?_)
      refine R.nil ?_
      refine X.then_ ?_
      refine wp_ret ?_
      refine X.then_ret ?_
      exact L.ret hf (run_results2 Tryz.results61 (ResIs.box hf hs 0 rfl rfl Tryz.isAgg57 Tryz.sizeOf57 rfl rfl) (ResIs.tmp hf rfl)) ⟨(⟨[], [], (⟨0, 0⟩ : Point), 0, false⟩ : Place), false, rfl, h, hs.nil⟩
    · replace h := h.2 hc
      refine wp_skip ?_
      refine X.then_ ?_
      refine wp_seq ?_
      refine R.list ?_
      refine S.val hf hs (v := .slice w_A w_.length w_C) rfl rfl rfl (V.pure rfl) (fun a hf => ?_)
      obtain ⟨h0x1, x1, hx1, h⟩ := h
      refine S.val hf hs (v := elemPtr w_A (3 * 1)) rfl rfl rfl (V.index rfl rfl rfl Tryz.runUnderlying74 Tryz.sizeOf9 (hv_w_.some_ (lt_of_get hx1)) h0x1 (lt_of_get hx1) rfl) (fun a hf => ?_)
      refine S.val hf hs (v := .string (ba x1)) rfl rfl rfl (V.loadEl (off := 0) (Ag.args _ _ _) (hv_w_.flat hx1) rfl rfl rfl Tryz.isAgg9 Tryz.sizeOf9 rfl rfl) (fun a hf => ?_)
      refine S.call hf rfl rfl rfl (call_fn (vs := [.string (ba x1)]) rfl rfl rfl Tryz.call126) (R_ref10_signed x1 _  _ h) (fun v a w' hf hr => ?_)
      obtain ⟨y1, y2, rfl, h2, hs2⟩ := hr
      replace h := h2; replace hs := hs.call hs2; clear h2 hs2
      refine S.val hf hs (v := .tuple #[.int .i64 y1, .bool y2]) rfl rfl rfl (V.pure rfl) (fun a hf => ?_)
      refine S.val hf hs (v := .int .i64 y1) rfl rfl rfl (V.pure rfl) (fun a hf => ?_)
      refine S.val hf hs (v := .bool y2) rfl rfl rfl (V.pure rfl) (fun a hf => ?_)
      refine S.val hf hs (v := .int .i64 y1) rfl rfl rfl (V.pure rfl) (fun a hf => ?_)
      refine S.val hf hs (v := .bool y2) rfl rfl rfl (V.pure rfl) (fun a hf => ?_)
      refine R.nil ?_
      refine X.then_ ?_
      refine wp_seq ?_
      refine R.list ?_
      refine S.val hf hs (v := .slice w_A w_.length w_C) rfl rfl rfl (V.pure rfl) (fun a hf => ?_)
      obtain ⟨h0x2, x2, hx2, h⟩ := h
      refine S.val hf hs (v := elemPtr w_A (4 * 1)) rfl rfl rfl (V.index rfl rfl rfl Tryz.runUnderlying74 Tryz.sizeOf9 (hv_w_.some_ (lt_of_get hx2)) h0x2 (lt_of_get hx2) rfl) (fun a hf => ?_)
      refine S.val hf hs (v := .string (ba x2)) rfl rfl rfl (V.loadEl (off := 0) (Ag.args _ _ _) (hv_w_.flat hx2) rfl rfl rfl Tryz.isAgg9 Tryz.sizeOf9 rfl rfl) (fun a hf => ?_)
      refine S.call hf rfl rfl rfl (call_fn (vs := [.string (ba x2)]) rfl rfl rfl Tryz.call126) (R_ref10_signed x2 _  _ h) (fun v a w' hf hr => ?_)
      obtain ⟨y3, y4, rfl, h2, hs2⟩ := hr
      replace h := h2; replace hs := hs.call hs2; clear h2 hs2
      refine S.val hf hs (v := .tuple #[.int .i64 y3, .bool y4]) rfl rfl rfl (V.pure rfl) (fun a hf => ?_)
      refine S.val hf hs (v := .int .i64 y3) rfl rfl rfl (V.pure rfl) (fun a hf => ?_)
      refine S.val hf hs (v := .bool y4) rfl rfl rfl (V.pure rfl) (fun a hf => ?_)
      refine S.val hf hs (v := .int .i64 y3) rfl rfl rfl (V.pure rfl) (fun a hf => ?_)
      refine S.val hf hs (v := .bool y4) rfl rfl rfl (V.pure rfl) (fun a hf => ?_)
      refine R.nil ?_
      refine X.then_ ?_
      refine wp_seq ?_
      refine R.list ?_
      refine S.val hf hs (v := .slice w_A w_.length w_C) rfl rfl rfl (V.pure rfl) (fun a hf => ?_)
      obtain ⟨h0x3, x3, hx3, h⟩ := h
      refine S.val hf hs (v := elemPtr w_A (5 * 1)) rfl rfl rfl (V.index rfl rfl rfl Tryz.runUnderlying74 Tryz.sizeOf9 (hv_w_.some_ (lt_of_get hx3)) h0x3 (lt_of_get hx3) rfl) (fun a hf => ?_)
      refine S.val hf hs (v := .string (ba x3)) rfl rfl rfl (V.loadEl (off := 0) (Ag.args _ _ _) (hv_w_.flat hx3) rfl rfl rfl Tryz.isAgg9 Tryz.sizeOf9 rfl rfl) (fun a hf => ?_)
      refine S.call hf rfl rfl rfl (call_fn (vs := [.string (ba x3)]) rfl rfl rfl Tryz.call125) (R_ref10_number x3 _  _ h) (fun v a w' hf hr => ?_)
      obtain ⟨y5, y6, rfl, h2, hs2⟩ := hr
      replace h := h2; replace hs := hs.call hs2; clear h2 hs2
      refine S.val hf hs (v := .tuple #[.int .i64 y5, .bool y6]) rfl rfl rfl (V.pure rfl) (fun a hf => ?_)
      refine S.val hf hs (v := .int .i64 y5) rfl rfl rfl (V.pure rfl) (fun a hf => ?_)
      refine S.val hf hs (v := .bool y6) rfl rfl rfl (V.pure rfl) (fun a hf => ?_)
      refine S.val hf hs (v := .int .i64 y5) rfl rfl rfl (V.pure rfl) (fun a hf => ?_)
      refine S.val hf hs (v := .bool y6) rfl rfl rfl (V.pure rfl) (fun a hf => ?_)
      refine R.nil ?_
      refine X.then_ ?_
      refine wp_seq ?_
      refine H.start (S := Sat w0 none_ []) mo ?_
      replace hs := hs.drew
      refine H.val hf hs.nil (v := .slice w_A w_.length w_C) (i := 0) rfl rfl rfl rfl (by kernel_rfl) (by kernel_rfl) (by kernel_rfl) (V.pure rfl) (fun a hf => ?_)
      obtain ⟨h0x4, x4, hx4, h⟩ := h
      refine H.val hf hs.nil (v := elemPtr w_A (1 * 1)) (i := 1) rfl rfl rfl rfl (by kernel_rfl) (by kernel_rfl) (by kernel_rfl) (V.index rfl rfl rfl Tryz.runUnderlying74 Tryz.sizeOf9 (hv_w_.some_ (lt_of_get hx4)) h0x4 (lt_of_get hx4) rfl) (fun a hf => ?_)
      refine H.val hf hs.nil (v := .string (ba x4)) (i := 2) rfl rfl rfl rfl (by kernel_rfl) (by kernel_rfl) (by kernel_rfl) (V.loadEl (off := 0) (Ag.args _ _ _) (hv_w_.flat hx4) rfl rfl rfl Tryz.isAgg9 Tryz.sizeOf9 rfl rfl) (fun a hf => ?_)
      refine H.val hf hs.nil (v := .slice w_A w_.length w_C) (i := 3) rfl rfl rfl rfl (by kernel_rfl) (by kernel_rfl) (by kernel_rfl) (V.pure rfl) (fun a hf => ?_)
      obtain ⟨h0x5, x5, hx5, h⟩ := h
      refine H.val hf hs.nil (v := elemPtr w_A (2 * 1)) (i := 4) rfl rfl rfl rfl (by kernel_rfl) (by kernel_rfl) (by kernel_rfl) (V.index rfl rfl rfl Tryz.runUnderlying74 Tryz.sizeOf9 (hv_w_.some_ (lt_of_get hx5)) h0x5 (lt_of_get hx5) rfl) (fun a hf => ?_)
      refine H.val hf hs.nil (v := .string (ba x5)) (i := 5) rfl rfl rfl rfl (by kernel_rfl) (by kernel_rfl) (by kernel_rfl) (V.loadEl (off := 0) (Ag.args _ _ _) (hv_w_.flat hx5) rfl rfl rfl Tryz.isAgg9 Tryz.sizeOf9 rfl rfl) (fun a hf => ?_)
      refine H.val hf hs.nil (v := .int .i64 y1) (i := 6) rfl rfl rfl rfl (by kernel_rfl) (by kernel_rfl) (by kernel_rfl) (V.pure rfl) (fun a hf => ?_)
      refine H.val hf hs.nil (v := .int .i64 y3) (i := 7) rfl rfl rfl rfl (by kernel_rfl) (by kernel_rfl) (by kernel_rfl) (V.pure rfl) (fun a hf => ?_)
      refine H.val hf hs.nil (v := .int .i64 y5) (i := 9) rfl rfl rfl rfl (by kernel_rfl) (by kernel_rfl) (by kernel_rfl) (V.pure rfl) (fun a hf => ?_)
      refine H.val hf hs.nil (v := .slice w_A w_.length w_C) (i := 10) rfl rfl rfl rfl (by kernel_rfl) (by kernel_rfl) (by kernel_rfl) (V.pure rfl) (fun a hf => ?_)
      obtain ⟨h0x6, x6, hx6, h⟩ := h
      refine H.val hf hs.nil (v := elemPtr w_A (6 * 1)) (i := 11) rfl rfl rfl rfl (by kernel_rfl) (by kernel_rfl) (by kernel_rfl) (V.index rfl rfl rfl Tryz.runUnderlying74 Tryz.sizeOf9 (hv_w_.some_ (lt_of_get hx6)) h0x6 (lt_of_get hx6) rfl) (fun a hf => ?_)
      refine H.val hf hs.nil (v := .string (ba x6)) (i := 12) rfl rfl rfl rfl (by kernel_rfl) (by kernel_rfl) (by kernel_rfl) (V.loadEl (off := 0) (Ag.args _ _ _) (hv_w_.flat hx6) rfl rfl rfl Tryz.isAgg9 Tryz.sizeOf9 rfl rfl) (fun a hf => ?_)
      refine H.val hf hs.nil (v := .bool (x6 == [100, 111, 119, 110])) (i := 13) rfl rfl rfl rfl (by kernel_rfl) (by kernel_rfl) (by kernel_rfl) (V.strCmp (x6 == [100, 111, 119, 110]) rfl rfl rfl rfl) (fun a hf => ?_)
      refine H.val hf hs.nil (v := .bool y2) (i := 15) rfl rfl rfl rfl (by kernel_rfl) (by kernel_rfl) (by kernel_rfl) (V.pure rfl) (fun a hf => ?_)
      refine H.split hf hs.nil (b := y2) (i := 16) rfl rfl rfl rfl (by kernel_rfl) (by kernel_rfl) (by kernel_rfl) (V.pure rfl) (fun hc a hf => ?_) (fun hc a hf => ?_)
      · replace h := h.1 hc
        refine H.val hf hs.nil (v := .bool y4) (i := 17) rfl rfl rfl rfl (by kernel_rfl) (by kernel_rfl) (by kernel_rfl) (V.pure rfl) (fun a hf => ?_)
        refine H.val hf hs.nil (v := .bool y4) (i := 18) rfl rfl rfl rfl (by kernel_rfl) (by kernel_rfl) (by kernel_rfl) (V.pure rfl) (fun a hf => ?_)
        refine H.split hf hs.nil (b := y4) (i := 19) rfl rfl rfl rfl (by kernel_rfl) (by kernel_rfl) (by kernel_rfl) (V.pure rfl) (fun hc a hf => ?_) (fun hc a hf => ?_)
        · replace h := h.1 hc
          refine H.val hf hs.nil (v := .bool y6) (i := 20) rfl rfl rfl rfl (by kernel_rfl) (by kernel_rfl) (by kernel_rfl) (V.pure rfl) (fun a hf => ?_)
          refine H.val hf hs.nil (v := .bool y6) (i := 21) rfl rfl rfl rfl (by kernel_rfl) (by kernel_rfl) (by kernel_rfl) (V.pure rfl) (fun a hf => ?_)
          refine H.one (i := 8) rfl (by kernel_rfl) ?_
          refine S.val hf hs (v := .agg #[.int .i64 y1, .int .i64 y3]) rfl rfl rfl (V.build (places := #[(0, 1), (1, 1)]) rfl Tryz.zeroValue55 Tryz.runUnderlying55 (by intro w; simp [Tryz.sizeOf3]) rfl rfl) (fun a hf => ?_)
          refine R.nil ?_
          refine X.then_ ?_
          refine ⟨hs.nil, ?_⟩
          refine H.one (i := 14) rfl (by kernel_rfl) ?_
          refine S.val hf hs (v := .agg #[.string (ba x4), .string (ba x5), .int .i64 y1, .int .i64 y3, .int .i64 y5, .bool (x6 == [100, 111, 119, 110])]) rfl rfl rfl (V.build (places := #[(0, 1), (1, 1), (2, 2), (4, 1), (5, 1)]) rfl Tryz.zeroValue57 Tryz.runUnderlying57 (by intro w; simp [Tryz.sizeOf3, Tryz.sizeOf4, Tryz.sizeOf55, Tryz.sizeOf9]) rfl (by kernel_rfl)) (fun a hf => ?_)
          refine R.nil ?_
          refine X.then_ ?_
          refine ⟨hs.nil, ?_⟩
          refine H.one (i := 22) rfl (by kernel_rfl) ?_
          refine S.storeBox 0 hf hs rfl rfl [.string (ba x4), .string (ba x5), .int .i64 y1, .int .i64 y3, .int .i64 y5, .bool (x6 == [100, 111, 119, 110])] [.string (ba x4), .string (ba x5), .int .i64 y1, .int .i64 y3, .int .i64 y5, .bool (x6 == [100, 111, 119, 110])] rfl rfl rfl rfl rfl Tryz.sizeOf57 rfl rfl rfl rfl (fun a w hf hs => ?_)
          refine R.nil ?_
          refine X.then_ ?_
          refine ⟨hs.nil, ?_⟩
          refine H.val hf hs.nil (v := .bool y6) (i := 23) rfl rfl rfl rfl (by kernel_rfl) (by kernel_rfl) (by kernel_rfl) (V.pure rfl) (fun a hf => ?_)
          refine H.done (by kernel_rfl) ?_
          refine X.then_ ?_
          refine wp_ret ?_
          exact L.ret hf (run_results2 Tryz.results61 (ResIs.box hf hs 0 rfl rfl Tryz.isAgg57 Tryz.sizeOf57 rfl rfl) (ResIs.tmp hf rfl)) ⟨(⟨x4, x5, (⟨y1, y3⟩ : Point), y5, x6 == [100, 111, 119, 110]⟩ : Place), y6, rfl, h, hs.nil⟩
        · replace h := h.2 hc
          refine H.skip hf hs.nil (i := 20) rfl rfl rfl rfl (by kernel_rfl) (by kernel_rfl) (by kernel_rfl) (fun a hf => ?_)
          refine H.val hf hs.nil (v := .bool false) (i := 21) rfl rfl rfl rfl (by kernel_rfl) (by kernel_rfl) (by kernel_rfl) (V.pure rfl) (fun a hf => ?_)
          refine H.one (i := 8) rfl (by kernel_rfl) ?_
          refine S.val hf hs (v := .agg #[.int .i64 y1, .int .i64 y3]) rfl rfl rfl (V.build (places := #[(0, 1), (1, 1)]) rfl Tryz.zeroValue55 Tryz.runUnderlying55 (by intro w; simp [Tryz.sizeOf3]) rfl rfl) (fun a hf => ?_)
          refine R.nil ?_
          refine X.then_ ?_
          refine ⟨hs.nil, ?_⟩
          refine H.one (i := 14) rfl (by kernel_rfl) ?_
          refine S.val hf hs (v := .agg #[.string (ba x4), .string (ba x5), .int .i64 y1, .int .i64 y3, .int .i64 y5, .bool (x6 == [100, 111, 119, 110])]) rfl rfl rfl (V.build (places := #[(0, 1), (1, 1), (2, 2), (4, 1), (5, 1)]) rfl Tryz.zeroValue57 Tryz.runUnderlying57 (by intro w; simp [Tryz.sizeOf3, Tryz.sizeOf4, Tryz.sizeOf55, Tryz.sizeOf9]) rfl (by kernel_rfl)) (fun a hf => ?_)
          refine R.nil ?_
          refine X.then_ ?_
          refine ⟨hs.nil, ?_⟩
          refine H.one (i := 22) rfl (by kernel_rfl) ?_
          refine S.storeBox 0 hf hs rfl rfl [.string (ba x4), .string (ba x5), .int .i64 y1, .int .i64 y3, .int .i64 y5, .bool (x6 == [100, 111, 119, 110])] [.string (ba x4), .string (ba x5), .int .i64 y1, .int .i64 y3, .int .i64 y5, .bool (x6 == [100, 111, 119, 110])] rfl rfl rfl rfl rfl Tryz.sizeOf57 rfl rfl rfl rfl (fun a w hf hs => ?_)
          refine R.nil ?_
          refine X.then_ ?_
          refine ⟨hs.nil, ?_⟩
          refine H.val hf hs.nil (v := .bool false) (i := 23) rfl rfl rfl rfl (by kernel_rfl) (by kernel_rfl) (by kernel_rfl) (V.pure rfl) (fun a hf => ?_)
          refine H.done (by kernel_rfl) ?_
          refine X.then_ ?_
          refine wp_ret ?_
          exact L.ret hf (run_results2 Tryz.results61 (ResIs.box hf hs 0 rfl rfl Tryz.isAgg57 Tryz.sizeOf57 rfl rfl) (ResIs.tmp hf rfl)) ⟨(⟨x4, x5, (⟨y1, y3⟩ : Point), y5, x6 == [100, 111, 119, 110]⟩ : Place), false, rfl, h, hs.nil⟩
      · replace h := h.2 hc
        refine H.skip hf hs.nil (i := 17) rfl rfl rfl rfl (by kernel_rfl) (by kernel_rfl) (by kernel_rfl) (fun a hf => ?_)
        refine H.val hf hs.nil (v := .bool false) (i := 18) rfl rfl rfl rfl (by kernel_rfl) (by kernel_rfl) (by kernel_rfl) (V.pure rfl) (fun a hf => ?_)
        refine H.val hf hs.nil (v := .bool false) (i := 19) rfl rfl rfl rfl (by kernel_rfl) (by kernel_rfl) (by kernel_rfl) (V.pure rfl) (fun a hf => ?_)
        refine H.skip hf hs.nil (i := 20) rfl rfl rfl rfl (by kernel_rfl) (by kernel_rfl) (by kernel_rfl) (fun a hf => ?_)
        refine H.val hf hs.nil (v := .bool false) (i := 21) rfl rfl rfl rfl (by kernel_rfl) (by kernel_rfl) (by kernel_rfl) (V.pure rfl) (fun a hf => ?_)
        refine H.one (i := 8) rfl (by kernel_rfl) ?_
        refine S.val hf hs (v := .agg #[.int .i64 y1, .int .i64 y3]) rfl rfl rfl (V.build (places := #[(0, 1), (1, 1)]) rfl Tryz.zeroValue55 Tryz.runUnderlying55 (by intro w; simp [Tryz.sizeOf3]) rfl rfl) (fun a hf => ?_)
        refine R.nil ?_
        refine X.then_ ?_
        refine ⟨hs.nil, ?_⟩
        refine H.one (i := 14) rfl (by kernel_rfl) ?_
        refine S.val hf hs (v := .agg #[.string (ba x4), .string (ba x5), .int .i64 y1, .int .i64 y3, .int .i64 y5, .bool (x6 == [100, 111, 119, 110])]) rfl rfl rfl (V.build (places := #[(0, 1), (1, 1), (2, 2), (4, 1), (5, 1)]) rfl Tryz.zeroValue57 Tryz.runUnderlying57 (by intro w; simp [Tryz.sizeOf3, Tryz.sizeOf4, Tryz.sizeOf55, Tryz.sizeOf9]) rfl (by kernel_rfl)) (fun a hf => ?_)
        refine R.nil ?_
        refine X.then_ ?_
        refine ⟨hs.nil, ?_⟩
        refine H.one (i := 22) rfl (by kernel_rfl) ?_
        refine S.storeBox 0 hf hs rfl rfl [.string (ba x4), .string (ba x5), .int .i64 y1, .int .i64 y3, .int .i64 y5, .bool (x6 == [100, 111, 119, 110])] [.string (ba x4), .string (ba x5), .int .i64 y1, .int .i64 y3, .int .i64 y5, .bool (x6 == [100, 111, 119, 110])] rfl rfl rfl rfl rfl Tryz.sizeOf57 rfl rfl rfl rfl (fun a w hf hs => ?_)
        refine R.nil ?_
        refine X.then_ ?_
        refine ⟨hs.nil, ?_⟩
        refine H.val hf hs.nil (v := .bool false) (i := 23) rfl rfl rfl rfl (by kernel_rfl) (by kernel_rfl) (by kernel_rfl) (V.pure rfl) (fun a hf => ?_)
        refine H.done (by kernel_rfl) ?_
        refine X.then_ ?_
        refine wp_ret ?_
        exact L.ret hf (run_results2 Tryz.results61 (ResIs.box hf hs 0 rfl rfl Tryz.isAgg57 Tryz.sizeOf57 rfl rfl) (ResIs.tmp hf rfl)) ⟨(⟨x4, x5, (⟨y1, y3⟩ : Point), y5, x6 == [100, 111, 119, 110]⟩ : Place), false, rfl, h, hs.nil⟩
  · skip
    refine R.list ?_
    refine S.val hf hs (v := .slice w_A w_.length w_C) rfl rfl rfl (V.pure rfl) (fun a hf => ?_)
    refine S.val hf hs (v := .int .i64 (w_.length : Int)) rfl rfl rfl (V.len rfl rfl Tryz.runUnderlying74) (fun a hf => ?_)
    refine S.val hf hs (v := .bool ((w_.length : Int) != 7)) rfl rfl rfl (V.pure rfl) (fun a hf => ?_)
    refine S.split hf hs (b := (w_.length : Int) != 7) rfl rfl rfl (V.pure rfl) (fun hc a hf => ?_) (fun hc a hf => ?_)
    · replace h := h.1 hc
      refine S.skip hf rfl rfl rfl (fun a hf => ?_)
      refine S.skip hf rfl rfl rfl (fun a hf => ?_)
      refine S.skip hf rfl rfl rfl (fun a hf => ?_)
      refine S.skip hf rfl rfl rfl (fun a hf => ?_)
      refine S.skip hf rfl rfl rfl (fun a hf => ?_)
      refine S.val hf hs (v := .bool true) rfl rfl rfl (V.pure rfl) (fun a hf => ?_)
      refine S.val hf hs (v := .bool true) rfl rfl rfl (V.pure rfl) (fun a hf => ?_)
      refine S.skip hf rfl rfl rfl (fun a hf => ?_)
      refine S.skip hf rfl rfl rfl (fun a hf => ?_)
      refine S.skip hf rfl rfl rfl (fun a hf => ?_)
      refine S.skip hf rfl rfl rfl (fun a hf => ?_)
      refine S.skip hf rfl rfl rfl (fun a hf => ?_)
      refine S.val hf hs (v := .bool true) rfl rfl rfl (V.pure rfl) (fun a hf => ?_)
      refine S.val hf hs (v := .bool true) rfl rfl rfl (V.pure rfl) (fun a hf => ?_)
      refine S.skip hf rfl rfl rfl (fun a hf => ?_)
      refine S.skip hf rfl rfl rfl (fun a hf => ?_)
      refine S.skip hf rfl rfl rfl (fun a hf => ?_)
      refine S.skip hf rfl rfl rfl (fun a hf => ?_)
      refine S.skip hf rfl rfl rfl (fun a hf => ?_)
      refine S.skip hf rfl rfl rfl (fun a hf => ?_)
      refine S.skip hf rfl rfl rfl (fun a hf => ?_)
      refine S.skip hf rfl rfl rfl (fun a hf => ?_)
      refine S.skip hf rfl rfl rfl (fun a hf => ?_)
      refine S.skip hf rfl rfl rfl (fun a hf => ?_)
      refine S.val hf hs (v := .bool true) rfl rfl rfl (V.pure rfl) (fun a hf => ?_)
      refine R.nil ?_
      refine X.then_ ?_
      exact ⟨true, h, (((hf.nil.cons (hf.get 38 _ rfl)).cons (hf.get 2 _ rfl)).cons (hf.get 0 _ rfl)), hs⟩
    · replace h := h.2 hc
      refine S.val hf hs (v := .slice w_A w_.length w_C) rfl rfl rfl (V.pure rfl) (fun a hf => ?_)
      obtain ⟨h0x7, x7, hx7, h⟩ := h
      refine S.val hf hs (v := elemPtr w_A (1 * 1)) rfl rfl rfl (V.index rfl rfl rfl Tryz.runUnderlying74 Tryz.sizeOf9 (hv_w_.some_ (lt_of_get hx7)) h0x7 (lt_of_get hx7) rfl) (fun a hf => ?_)
      refine S.val hf hs (v := .string (ba x7)) rfl rfl rfl (V.loadEl (off := 0) (Ag.args _ _ _) (hv_w_.flat hx7) rfl rfl rfl Tryz.isAgg9 Tryz.sizeOf9 rfl rfl) (fun a hf => ?_)
      refine S.call hf rfl rfl rfl (call_fn (vs := [.string (ba x7)]) rfl rfl rfl Tryz.call124) (R_ref10_isRow x7 _  _ h) (fun v a w' hf hr => ?_)
      obtain ⟨y7, rfl, h2, hs2⟩ := hr
      replace h := h2; replace hs := hs.call hs2; clear h2 hs2
      refine S.val hf hs (v := .bool (!y7)) rfl rfl rfl (V.pure rfl) (fun a hf => ?_)
      refine S.val hf hs (v := .bool (!y7)) rfl rfl rfl (V.pure rfl) (fun a hf => ?_)
      refine S.split hf hs (b := !y7) rfl rfl rfl (V.pure rfl) (fun hc a hf => ?_) (fun hc a hf => ?_)
      · replace h := h.1 hc
        refine S.skip hf rfl rfl rfl (fun a hf => ?_)
        refine S.skip hf rfl rfl rfl (fun a hf => ?_)
        refine S.skip hf rfl rfl rfl (fun a hf => ?_)
        refine S.skip hf rfl rfl rfl (fun a hf => ?_)
        refine S.skip hf rfl rfl rfl (fun a hf => ?_)
        refine S.val hf hs (v := .bool true) rfl rfl rfl (V.pure rfl) (fun a hf => ?_)
        refine S.val hf hs (v := .bool true) rfl rfl rfl (V.pure rfl) (fun a hf => ?_)
        refine S.skip hf rfl rfl rfl (fun a hf => ?_)
        refine S.skip hf rfl rfl rfl (fun a hf => ?_)
        refine S.skip hf rfl rfl rfl (fun a hf => ?_)
        refine S.skip hf rfl rfl rfl (fun a hf => ?_)
        refine S.skip hf rfl rfl rfl (fun a hf => ?_)
        refine S.skip hf rfl rfl rfl (fun a hf => ?_)
        refine S.skip hf rfl rfl rfl (fun a hf => ?_)
        refine S.skip hf rfl rfl rfl (fun a hf => ?_)
        refine S.skip hf rfl rfl rfl (fun a hf => ?_)
        refine S.skip hf rfl rfl rfl (fun a hf => ?_)
        refine S.val hf hs (v := .bool true) rfl rfl rfl (V.pure rfl) (fun a hf => ?_)
        refine R.nil ?_
        refine X.then_ ?_
        exact ⟨true, h, (((hf.nil.cons (hf.get 38 _ rfl)).cons (hf.get 2 _ rfl)).cons (hf.get 0 _ rfl)), hs⟩
      · replace h := h.2 hc
        refine S.val hf hs (v := .slice w_A w_.length w_C) rfl rfl rfl (V.pure rfl) (fun a hf => ?_)
        obtain ⟨h0x8, x8, hx8, h⟩ := h
        refine S.val hf hs (v := elemPtr w_A (2 * 1)) rfl rfl rfl (V.index rfl rfl rfl Tryz.runUnderlying74 Tryz.sizeOf9 (hv_w_.some_ (lt_of_get hx8)) h0x8 (lt_of_get hx8) rfl) (fun a hf => ?_)
        refine S.val hf hs (v := .string (ba x8)) rfl rfl rfl (V.loadEl (off := 0) (Ag.args _ _ _) (hv_w_.flat hx8) rfl rfl rfl Tryz.isAgg9 Tryz.sizeOf9 rfl rfl) (fun a hf => ?_)
        refine S.call hf rfl rfl rfl (call_fn (vs := [.string (ba x8)]) rfl rfl rfl Tryz.call124) (R_ref10_isRow x8 _  _ h) (fun v a w' hf hr => ?_)
        obtain ⟨y8, rfl, h2, hs2⟩ := hr
        replace h := h2; replace hs := hs.call hs2; clear h2 hs2
        refine S.val hf hs (v := .bool (!y8)) rfl rfl rfl (V.pure rfl) (fun a hf => ?_)
        refine S.val hf hs (v := .bool (!y8)) rfl rfl rfl (V.pure rfl) (fun a hf => ?_)
        refine S.split hf hs (b := !y8) rfl rfl rfl (V.pure rfl) (fun hc a hf => ?_) (fun hc a hf => ?_)
        · replace h := h.1 hc
          refine S.skip hf rfl rfl rfl (fun a hf => ?_)
          refine S.skip hf rfl rfl rfl (fun a hf => ?_)
          refine S.skip hf rfl rfl rfl (fun a hf => ?_)
          refine S.skip hf rfl rfl rfl (fun a hf => ?_)
          refine S.skip hf rfl rfl rfl (fun a hf => ?_)
          refine S.skip hf rfl rfl rfl (fun a hf => ?_)
          refine S.skip hf rfl rfl rfl (fun a hf => ?_)
          refine S.skip hf rfl rfl rfl (fun a hf => ?_)
          refine S.skip hf rfl rfl rfl (fun a hf => ?_)
          refine S.skip hf rfl rfl rfl (fun a hf => ?_)
          refine S.val hf hs (v := .bool true) rfl rfl rfl (V.pure rfl) (fun a hf => ?_)
          refine R.nil ?_
          refine X.then_ ?_
          exact ⟨true, h, (((hf.nil.cons (hf.get 38 _ rfl)).cons (hf.get 2 _ rfl)).cons (hf.get 0 _ rfl)), hs⟩
        · replace h := h.2 hc
          refine S.val hf hs (v := .slice w_A w_.length w_C) rfl rfl rfl (V.pure rfl) (fun a hf => ?_)
          obtain ⟨h0x9, x9, hx9, h⟩ := h
          refine S.val hf hs (v := elemPtr w_A (6 * 1)) rfl rfl rfl (V.index rfl rfl rfl Tryz.runUnderlying74 Tryz.sizeOf9 (hv_w_.some_ (lt_of_get hx9)) h0x9 (lt_of_get hx9) rfl) (fun a hf => ?_)
          refine S.val hf hs (v := .string (ba x9)) rfl rfl rfl (V.loadEl (off := 0) (Ag.args _ _ _) (hv_w_.flat hx9) rfl rfl rfl Tryz.isAgg9 Tryz.sizeOf9 rfl rfl) (fun a hf => ?_)
          refine S.val hf hs (v := .bool (!(x9 == [117, 112]))) rfl rfl rfl (V.strCmp (!(x9 == [117, 112])) rfl rfl rfl rfl) (fun a hf => ?_)
          refine S.split hf hs (b := !(x9 == [117, 112])) rfl rfl rfl (V.pure rfl) (fun hc a hf => ?_) (fun hc a hf => ?_)
          · replace h := h.1 hc
            refine S.val hf hs (v := .slice w_A w_.length w_C) rfl rfl rfl (V.pure rfl) (fun a hf => ?_)
            refine S.val hf hs (v := elemPtr w_A (6 * 1)) rfl rfl rfl (V.index rfl rfl rfl Tryz.runUnderlying74 Tryz.sizeOf9 (hv_w_.some_ (lt_of_get hx9)) h0x9 (lt_of_get hx9) rfl) (fun a hf => ?_)
            refine S.val hf hs (v := .string (ba x9)) rfl rfl rfl (V.loadEl (off := 0) (Ag.args _ _ _) (hv_w_.flat hx9) rfl rfl rfl Tryz.isAgg9 Tryz.sizeOf9 rfl rfl) (fun a hf => ?_)
            refine S.val hf hs (v := .bool (!(x9 == [100, 111, 119, 110]))) rfl rfl rfl (V.strCmp (!(x9 == [100, 111, 119, 110])) rfl rfl rfl rfl) (fun a hf => ?_)
            refine S.val hf hs (v := .bool (!(x9 == [100, 111, 119, 110]))) rfl rfl rfl (V.pure rfl) (fun a hf => ?_)
            refine S.val hf hs (v := .bool (!(x9 == [100, 111, 119, 110]))) rfl rfl rfl (V.pure rfl) (fun a hf => ?_)
            refine R.nil ?_
            refine X.then_ ?_
            exact ⟨(!(x9 == [100, 111, 119, 110])), h, (((hf.nil.cons (hf.get 38 _ rfl)).cons (hf.get 2 _ rfl)).cons (hf.get 0 _ rfl)), hs⟩
          · replace h := h.2 hc
            refine S.skip hf rfl rfl rfl (fun a hf => ?_)
            refine S.skip hf rfl rfl rfl (fun a hf => ?_)
            refine S.skip hf rfl rfl rfl (fun a hf => ?_)
            refine S.skip hf rfl rfl rfl (fun a hf => ?_)
            refine S.val hf hs (v := .bool false) rfl rfl rfl (V.pure rfl) (fun a hf => ?_)
            refine S.val hf hs (v := .bool false) rfl rfl rfl (V.pure rfl) (fun a hf => ?_)
            refine R.nil ?_
            refine X.then_ ?_
            exact ⟨false, h, (((hf.nil.cons (hf.get 38 _ rfl)).cons (hf.get 2 _ rfl)).cons (hf.get 0 _ rfl)), hs⟩

set_option linter.unusedVariables false
def M_ref10_Read_k3 (Q : (List Body) → (List Place) → Int → Int → Prop) (n2 : Int) (again1 : List Place → List Body → Str → Int → Prop) (y2 : Str) (l5 : List Place) (l6 : List Body) (c2 : Bool) : Prop :=
  cnd c2 (Q ([] : List Body) ([] : List Place) n2 10) (again1 l5 l6 y2 (w64 (n2 + 1)))
def M_ref10_Read_k2 (Q : (List Body) → (List Place) → Int → Int → Prop) (n2 : Int) (again1 : List Place → List Body → Str → Int → Prop) (y2 : Str) (y3 : Bool) (l5 : List Place) (l6 : List Body) (c1 : Bool) : Prop :=
  cnd (!c1) (M_ref10_Read_k3 Q n2 again1 y2 l5 l6 true) (M_ref10_Read_k3 Q n2 again1 y2 l5 l6 (!y3))
def M_ref10_Read_k4 (Q : (List Body) → (List Place) → Int → Int → Prop) (l3 : List Place) (l4 : List Body) (n2 : Int) (again1 : List Place → List Body → Str → Int → Prop) (y2 : Str) (y3 : Bool) (y4 : (List Str)) (c3 : Bool) : Prop :=
  cnd c3 (M_ref10_readBody y4 fun y5 y6 => must (room (l4 ++ [y5]).length 56) (M_ref10_Read_k2 Q n2 again1 y2 y3 l3 (l4 ++ [y5]) y6)) (idx y4 0 fun x1 => cnd (x1 == [112, 108, 97, 99, 101]) (M_ref10_readPlace y4 fun y7 y8 => must (room (l3 ++ [y7]).length 64) (M_ref10_Read_k2 Q n2 again1 y2 y3 (l3 ++ [y7]) l4 y8)) (M_ref10_Read_k2 Q n2 again1 y2 y3 l3 l4 false))
def M_ref10_Read_L1 (Q : (List Body) → (List Place) → Int → Int → Prop) (again1 : List Place → List Body → Str → Int → Prop) (l3 : List Place) (l4 : List Body) (s2 : Str) (n2 : Int) : Prop :=
  cnd (!(s2 == [])) (M_strings_Cut s2 [10] fun y1 y2 y3 => M_strings_Split y1 [32] fun y4 => idx y4 0 fun x2 => cnd (x2 == [98, 111, 100, 121]) (M_ref10_Read_k4 Q l3 l4 n2 again1 y2 y3 y4 ((l3.length : Int) == 0)) (M_ref10_Read_k4 Q l3 l4 n2 again1 y2 y3 y4 false)) (M_ref10_CheckPlaces l4 l3 fun y9 => cnd (y9 != 0) (Q ([] : List Body) ([] : List Place) 0 y9) (Q l4 l3 0 0))
def M_ref10_Read (text : Str) (Q : (List Body) → (List Place) → Int → Int → Prop) : Prop :=
  cnd (decide ((text.length : Int) > 300000)) (Q ([] : List Body) ([] : List Place) 0 2) (lp (fun again (s : List Place × List Body × Str × Int) => M_ref10_Read_L1 Q (fun l3 l4 s2 n2 => again (l3, l4, s2, n2)) s.1 s.2.1 s.2.2.1 s.2.2.2) ((([] : List Place)), ([] : List Body), text, 1))
set_option maxHeartbeats 1000000 in
theorem R_ref10_Read (text : Str) (w0 : World)  (Q : (List Body) → (List Place) → Int → Int → Prop) (h : M_ref10_Read text Q) :
    Ret Tryz.prog 24 #[.string (ba text)] w0 fun v w' => ∃ (r0 : (List Body)) (r0A : Option Addr) (r0C : Nat) (r1 : (List Place)) (r1A : Option Addr) (r1C : Nat) (r2 : Int) (r3 : Int), v = .tuple #[.slice r0A r0.length r0C, .slice r1A r1.length r1C, .int .i64 r2, .int .i64 r3] ∧ Q r0 r1 r2 r3 ∧ Sat w0 none_ [hown 52 r0A r0C r0, hown 57 r1A r1C r1] w' := by
  refine fn_enter Tryz.func24 rfl Tryz.ntmps24 rfl (fs := [(0, .string (ba text))]) rfl (fun a hf => ?_)
  have hs := Sat.start w0 none_
  unfold M_ref10_Read at h
  refine wp_seq ?_
  refine R.list ?_
  refine S.val hf hs (v := .slice none 0 0) rfl rfl rfl (V.pure rfl) (fun a hf => ?_)
  refine S.val hf hs (v := .slice none 0 0) rfl rfl rfl (V.pure rfl) (fun a hf => ?_)
  refine S.val hf hs (v := .int .i64 0) rfl rfl rfl (V.pure rfl) (fun a hf => ?_)
  refine S.val hf hs (v := .int .i64 0) rfl rfl rfl (V.pure rfl) (fun a hf => ?_)
  refine R.nil ?_
  refine X.then_ ?_
  refine wp_seq ?_
  refine wp_seq ?_
  refine R.list ?_
  refine S.val hf hs (v := .string (ba text)) rfl rfl rfl (V.pure rfl) (fun a hf => ?_)
  refine S.val hf hs (v := .int .i64 (text.length : Int)) rfl rfl rfl (V.lenStr rfl rfl Tryz.runUnderlying9) (fun a hf => ?_)
  refine S.val hf hs (v := .bool (decide ((text.length : Int) > 300000))) rfl rfl rfl (V.pure rfl) (fun a hf => ?_)
  refine R.nil ?_
  refine X.then_ ?_
  refine C.cond hf (b := decide ((text.length : Int) > 300000)) rfl (fun hc => ?_) (fun hc => ?_)
  · replace h := h.1 hc
    refine wp_seq ?_
    refine R.list ?_
    refine S.val hf hs (v := .slice none 0 0) rfl rfl rfl (V.pure rfl) (fun a hf => ?_)
    refine S.val hf hs (v := .slice none 0 0) rfl rfl rfl (V.pure rfl) (fun a hf => ?_)
    refine S.val hf hs (v := .int .i64 0) rfl rfl rfl (V.pure rfl) (fun a hf => ?_)
    refine S.val hf hs (v := .int .i64 2) rfl rfl rfl (V.pure rfl) (fun a hf => ?_)
    refine R.nil ?_
    refine X.then_ ?_
    refine wp_ret ?_
    refine X.then_ret ?_
    replace hs := hs.nilOwn (α := Body) 52
    replace hs := hs.nilOwn (α := Place) 57
    replace hs := hs.front 1 rfl
    replace hs := hs.take 2
    exact L.ret hf (run_results4 Tryz.results24 (ResIs.tmp hf rfl) (ResIs.tmp hf rfl) (ResIs.tmp hf rfl) (ResIs.tmp hf rfl)) ⟨([] : List Body), none, 0, ([] : List Place), none, 0, 0, 2, rfl, h, hs⟩
  · replace h := h.2 hc
    refine wp_skip ?_
    refine X.then_ ?_
    refine wp_seq ?_
    refine R.list ?_
    refine S.val hf hs (v := .slice none 0 0) rfl rfl rfl (V.pure rfl) (fun a hf => ?_)
    refine R.nil ?_
    refine X.then_ ?_
    refine wp_seq ?_
    refine R.list ?_
    refine S.val hf hs (v := .slice none 0 0) rfl rfl rfl (V.pure rfl) (fun a hf => ?_)
    refine R.nil ?_
    refine X.then_ ?_
    refine wp_seq ?_
    refine wp_seq ?_
    refine R.list ?_
    refine S.val hf hs (v := .int .i64 1) rfl rfl rfl (V.pure rfl) (fun a hf => ?_)
    refine R.nil ?_
    refine X.then_ ?_
    refine wp_block ?_
    replace hs := hs.nilOwn (α := Body) 52
    replace hs := hs.nilOwn (α := Place) 57
    obtain ⟨kk, h⟩ := h
    refine C.loop (fun kk a w => ∃ (l3 : List Place) (l3A : Option Addr) (l3C : Nat) (l4 : List Body) (l4A : Option Addr) (l4C : Nat) (s2 : Str) (n2 : Int), iterF (fun again (s : List Place × List Body × Str × Int) => M_ref10_Read_L1 Q (fun l3 l4 s2 n2 => again (l3, l4, s2, n2)) s.1 s.2.1 s.2.2.1 s.2.2.2) kk (l3, l4, s2, n2) ∧ FrOk 79 [(0, .string (ba s2)), (6, .slice l4A l4.length l4C), (7, .slice l3A l3.length l3C), (8, .int .i64 n2)] a ∧ Sat w0 none_ [hown 57 l3A l3C l3, hown 52 l4A l4C l4] w) kk ⟨(([] : List Place)), none, 0, ([] : List Body), none, 0, text, 1, h, ((((hf.nil.cons (hf.get 8 _ rfl)).cons (hf.get 7 _ rfl)).cons (hf.get 6 _ rfl)).cons (hf.get 0 _ rfl)), hs⟩ (fun a w ⟨_, _, _, _, _, _, _, _, h, _, _⟩ => h) ?_
    clear h hf hs
    rintro kk a w ⟨l3, l3A, l3C, l4, l4A, l4C, s2, n2, h, hf, hs⟩
    obtain ⟨again1, hagain1⟩ : ∃ X : List Place → List Body → Str → Int → Prop, X = (fun l3 l4 s2 n2 => iterF (fun again (s : List Place × List Body × Str × Int) => M_ref10_Read_L1 Q (fun l3 l4 s2 n2 => again (l3, l4, s2, n2)) s.1 s.2.1 s.2.2.1 s.2.2.2) kk (l3, l4, s2, n2)) := ⟨_, rfl⟩
    replace h : M_ref10_Read_L1 Q again1 l3 l4 s2 n2 := by rw [hagain1]; exact h
    unfold M_ref10_Read_L1 at h
    refine wp_seq ?_
    refine wp_seq ?_
    refine R.list ?_
    refine S.val hf hs (v := .string (ba s2)) rfl rfl rfl (V.pure rfl) (fun a hf => ?_)
    refine S.val hf hs (v := .bool (!(s2 == []))) rfl rfl rfl (V.strCmp (!(s2 == [])) rfl rfl rfl rfl) (fun a hf => ?_)
    refine R.nil ?_
    refine X.then_ ?_
    refine C.cond hf (b := !(s2 == [])) rfl (fun hc => ?_) (fun hc => ?_)
    · replace h := h.1 hc
      refine wp_skip ?_
      refine X.then_ ?_
      refine wp_seq ?_
      refine wp_block ?_
      refine wp_seq ?_
      refine R.list ?_
      refine S.val hf hs (v := .string (ba s2)) rfl rfl rfl (V.pure rfl) (fun a hf => ?_)
      refine S.call hf rfl rfl rfl (call_fn (vs := [.string (ba s2), .string (ba [10])]) rfl rfl rfl Tryz.call38) (R_strings_Cut s2 [10] _  _ h) (fun v a w' hf hr => ?_)
      obtain ⟨y1, y2, y3, rfl, h2, hs2⟩ := hr
      replace h := h2; replace hs := hs.call hs2; clear h2 hs2
      refine S.val hf hs (v := .tuple #[.string (ba y1), .string (ba y2), .bool y3]) rfl rfl rfl (V.pure rfl) (fun a hf => ?_)
      refine S.val hf hs (v := .string (ba y1)) rfl rfl rfl (V.pure rfl) (fun a hf => ?_)
      refine S.val hf hs (v := .string (ba y2)) rfl rfl rfl (V.pure rfl) (fun a hf => ?_)
      refine S.val hf hs (v := .bool y3) rfl rfl rfl (V.pure rfl) (fun a hf => ?_)
      refine S.val hf hs (v := .string (ba y1)) rfl rfl rfl (V.pure rfl) (fun a hf => ?_)
      refine S.val hf hs (v := .string (ba y2)) rfl rfl rfl (V.pure rfl) (fun a hf => ?_)
      refine S.val hf hs (v := .bool y3) rfl rfl rfl (V.pure rfl) (fun a hf => ?_)
      refine R.nil ?_
      refine X.then_ ?_
      refine wp_seq ?_
      refine R.list ?_
      refine S.val hf hs (v := .string (ba y1)) rfl rfl rfl (V.pure rfl) (fun a hf => ?_)
      refine S.call hf rfl rfl rfl (call_fn (vs := [.string (ba y1), .string (ba [32])]) rfl rfl rfl Tryz.call41) (R_strings_Split y1 [32] _  _ h) (fun v a w' hf hr => ?_)
      obtain ⟨y4, y4A, y4C, rfl, h2, hs2⟩ := hr
      replace h := h2; replace hs := hs.call hs2; clear h2 hs2
      refine S.val hf hs (v := .slice y4A y4.length y4C) rfl rfl rfl (V.pure rfl) (fun a hf => ?_)
      refine R.nil ?_
      refine X.then_ ?_
      refine wp_seq ?_
      refine R.list ?_
      refine S.val hf hs (v := .bool false) rfl rfl rfl (V.pure rfl) (fun a hf => ?_)
      refine R.nil ?_
      refine X.then_ ?_
      refine wp_seq ?_
      refine C.cut (J := fun a w => ∃ (l5 : List Place) (l5A : Option Addr) (l5C : Nat) (l6 : List Body) (l6A : Option Addr) (l6C : Nat) (c1 : Bool), M_ref10_Read_k2 Q n2 again1 y2 y3 l5 l6 c1 ∧ FrOk 79 [(6, .slice l6A l6.length l6C), (7, .slice l5A l5.length l5C), (8, .int .i64 n2), (10, .string (ba y2)), (11, .bool y3), (13, .bool c1)] a ∧ Sat w0 none_ [hown 9 y4A y4C y4, hown 57 l5A l5C l5, hown 52 l6A l6C l6] w) ?_ ?_
      · rintro a w ⟨l5, l5A, l5C, l6, l6A, l6C, c1, h, hf, hs⟩
        unfold M_ref10_Read_k2 at h
        refine wp_seq ?_
        refine wp_seq ?_
        refine C.cut (J := fun a w => ∃ (c2 : Bool), M_ref10_Read_k3 Q n2 again1 y2 l5 l6 c2 ∧ FrOk 79 [(6, .slice l6A l6.length l6C), (7, .slice l5A l5.length l5C), (8, .int .i64 n2), (10, .string (ba y2)), (68, .bool c2)] a ∧ Sat w0 none_ [hown 9 y4A y4C y4, hown 57 l5A l5C l5, hown 52 l6A l6C l6] w) ?_ ?_
        · rintro a w ⟨c2, h, hf, hs⟩
          unfold M_ref10_Read_k3 at h
          refine C.cond hf (b := c2) rfl (fun hc => ?_) (fun hc => ?_)
          · replace h := h.1 hc
            refine wp_seq ?_
            refine R.list ?_
            refine S.val hf hs (v := .int .i64 n2) rfl rfl rfl (V.pure rfl) (fun a hf => ?_)
            refine S.val hf hs (v := .slice none 0 0) rfl rfl rfl (V.pure rfl) (fun a hf => ?_)
            refine S.val hf hs (v := .slice none 0 0) rfl rfl rfl (V.pure rfl) (fun a hf => ?_)
            refine S.val hf hs (v := .int .i64 n2) rfl rfl rfl (V.pure rfl) (fun a hf => ?_)
            refine S.val hf hs (v := .int .i64 10) rfl rfl rfl (V.pure rfl) (fun a hf => ?_)
            refine R.nil ?_
            refine X.then_ ?_
            refine wp_ret ?_
            refine X.then_ret ?_
            refine X.blk_ret ?_
            refine X.then_ret ?_
            refine X.then_ret ?_
            refine X.blk_ret ?_
            refine X.then_ret ?_
            replace hs := hs.nilOwn (α := Body) 52
            replace hs := hs.nilOwn (α := Place) 57
            replace hs := hs.front 1 rfl
            replace hs := hs.take 2
            exact L.ret hf (run_results4 Tryz.results24 (ResIs.tmp hf rfl) (ResIs.tmp hf rfl) (ResIs.tmp hf rfl) (ResIs.tmp hf rfl)) ⟨([] : List Body), none, 0, ([] : List Place), none, 0, n2, 10, rfl, h, hs⟩
          · replace h := h.2 hc
            refine wp_skip ?_
            refine X.then_ ?_
            refine R.list ?_
            refine S.val hf hs (v := .string (ba y2)) rfl rfl rfl (V.pure rfl) (fun a hf => ?_)
            refine S.val hf hs (v := .string (ba y2)) rfl rfl rfl (V.pure rfl) (fun a hf => ?_)
            refine R.nil ?_
            refine X.blk ?_
            refine X.then_ ?_
            refine R.list ?_
            refine S.val hf hs (v := .int .i64 n2) rfl rfl rfl (V.pure rfl) (fun a hf => ?_)
            refine S.val hf hs (v := .int .i64 (w64 (n2 + 1))) rfl rfl rfl (V.pure rfl) (fun a hf => ?_)
            refine S.val hf hs (v := .int .i64 (w64 (n2 + 1))) rfl rfl rfl (V.pure rfl) (fun a hf => ?_)
            refine R.nil ?_
            refine X.then_ ?_
            exact ⟨l5, l5A, l5C, l6, l6A, l6C, y2, (w64 (n2 + 1)), (by rw [hagain1] at h; exact h), ((((hf.nil.cons (hf.get 8 _ rfl)).cons (hf.get 7 _ rfl)).cons (hf.get 6 _ rfl)).cons (hf.get 0 _ rfl)), hs.drop⟩
        · skip
          refine R.list ?_
          refine S.val hf hs (v := .bool c1) rfl rfl rfl (V.pure rfl) (fun a hf => ?_)
          refine S.val hf hs (v := .bool (!c1)) rfl rfl rfl (V.pure rfl) (fun a hf => ?_)
          refine S.split hf hs (b := !c1) rfl rfl rfl (V.pure rfl) (fun hc a hf => ?_) (fun hc a hf => ?_)
          · replace h := h.1 hc
            refine S.skip hf rfl rfl rfl (fun a hf => ?_)
            refine S.skip hf rfl rfl rfl (fun a hf => ?_)
            refine S.val hf hs (v := .bool true) rfl rfl rfl (V.pure rfl) (fun a hf => ?_)
            refine R.nil ?_
            refine X.then_ ?_
            exact ⟨true, h, (((((hf.nil.cons (hf.get 68 _ rfl)).cons (hf.get 10 _ rfl)).cons (hf.get 8 _ rfl)).cons (hf.get 7 _ rfl)).cons (hf.get 6 _ rfl)), hs⟩
          · replace h := h.2 hc
            refine S.val hf hs (v := .bool y3) rfl rfl rfl (V.pure rfl) (fun a hf => ?_)
            refine S.val hf hs (v := .bool (!y3)) rfl rfl rfl (V.pure rfl) (fun a hf => ?_)
            refine S.val hf hs (v := .bool (!y3)) rfl rfl rfl (V.pure rfl) (fun a hf => ?_)
            refine R.nil ?_
            refine X.then_ ?_
            exact ⟨(!y3), h, (((((hf.nil.cons (hf.get 68 _ rfl)).cons (hf.get 10 _ rfl)).cons (hf.get 8 _ rfl)).cons (hf.get 7 _ rfl)).cons (hf.get 6 _ rfl)), hs⟩
      · skip
        refine wp_seq ?_
        refine C.cut (J := fun a w => ∃ (c3 : Bool), M_ref10_Read_k4 Q l3 l4 n2 again1 y2 y3 y4 c3 ∧ FrOk 79 [(6, .slice l4A l4.length l4C), (7, .slice l3A l3.length l3C), (8, .int .i64 n2), (10, .string (ba y2)), (11, .bool y3), (12, .slice y4A y4.length y4C), (13, .bool false), (40, .bool c3)] a ∧ Sat w0 none_ [hown 9 y4A y4C y4, hown 57 l3A l3C l3, hown 52 l4A l4C l4] w) ?_ ?_
        · rintro a w ⟨c3, h, hf, hs⟩
          unfold M_ref10_Read_k4 at h
          refine C.cond hf (b := c3) rfl (fun hc => ?_) (fun hc => ?_)
          · replace h := h.1 hc
            refine wp_seq ?_
            refine R.list ?_
            refine S.alloc hf hs rfl rfl rfl [.string (ba []), .int .i64 0, .int .i64 0, .int .i64 0, .string (ba [])] rfl Tryz.zeroValue52 rfl (fun g1 a w hf hs => ?_)
            refine R.nil ?_
            refine X.then_ ?_
            refine wp_seq ?_
            refine R.list ?_
            refine S.val hf hs (v := .slice y4A y4.length y4C) rfl rfl rfl (V.pure rfl) (fun a hf => ?_)
            refine S.call hf rfl rfl rfl (call_fn (vs := [.slice y4A y4.length y4C]) rfl rfl rfl Tryz.call60) (R_ref10_readBody y4 _ y4A y4C (hs.ownView 1 rfl) _ h) (fun v a w' hf hr => ?_)
            obtain ⟨y5, y6, rfl, h2, hs2⟩ := hr
            replace h := h2; replace hs := hs.call hs2; clear h2 hs2
            refine S.val hf hs (v := .tuple #[.agg #[.string (ba y5.Typ), .int .i64 y5.W, .int .i64 y5.H, .int .i64 y5.Tall, .string (ba y5.Nozzle)], .bool y6]) rfl rfl rfl (V.pure rfl) (fun a hf => ?_)
            refine S.val hf hs (v := .agg #[.string (ba y5.Typ), .int .i64 y5.W, .int .i64 y5.H, .int .i64 y5.Tall, .string (ba y5.Nozzle)]) rfl rfl rfl (V.pure rfl) (fun a hf => ?_)
            refine S.val hf hs (v := .bool y6) rfl rfl rfl (V.pure rfl) (fun a hf => ?_)
            refine S.storeBox 0 hf hs rfl rfl [.string (ba y5.Typ), .int .i64 y5.W, .int .i64 y5.H, .int .i64 y5.Tall, .string (ba y5.Nozzle)] [.string (ba y5.Typ), .int .i64 y5.W, .int .i64 y5.H, .int .i64 y5.Tall, .string (ba y5.Nozzle)] rfl rfl rfl rfl rfl Tryz.sizeOf52 rfl rfl rfl rfl (fun a w hf hs => ?_)
            refine S.val hf hs (v := .bool y6) rfl rfl rfl (V.pure rfl) (fun a hf => ?_)
            refine R.nil ?_
            refine X.then_ ?_
            refine R.list ?_
            refine S.val hf hs (v := .slice l4A l4.length l4C) rfl rfl rfl (V.pure rfl) (fun a hf => ?_)
            refine S.val hf hs (v := .agg #[.string (ba y5.Typ), .int .i64 y5.W, .int .i64 y5.H, .int .i64 y5.Tall, .string (ba y5.Nozzle)]) rfl rfl rfl (V.loadBox 0 rfl rfl rfl Tryz.isAgg52 Tryz.sizeOf52 rfl rfl) (fun a hf => ?_)
            refine S.build1 hf hs rfl rfl rfl (α := Body) y5 rfl rfl rfl Tryz.runUnderlying46 Tryz.sizeOf52 Tryz.zeroValue52 rfl (by decide) (fun A1 a w hf hs => ?_)
            obtain ⟨hroom, h⟩ := h
            refine S.appendCells 4 hf hs rfl rfl rfl rfl rfl rfl rfl Tryz.underlying46 info52 rfl hroom ((hs.ownView 0 rfl).some_ (i := 0) (by simp)) (hs.ownView 0 rfl) (fun A2 C1 a w hf hs => ?_)
            replace hs := hs.drop
            refine S.val hf hs (v := .slice A2 (l4 ++ [y5]).length C1) rfl rfl rfl (V.pure rfl) (fun a hf => ?_)
            refine R.nil ?_
            refine X.then_ ?_
            exact ⟨l3, l3A, l3C, (l4 ++ [y5]), A2, C1, y6, h, ((((((hf.nil.cons (hf.get 13 _ rfl)).cons (hf.get 11 _ rfl)).cons (hf.get 10 _ rfl)).cons (hf.get 8 _ rfl)).cons (hf.get 7 _ rfl)).cons (hf.get 6 _ rfl)), hs.drop⟩
          · replace h := h.2 hc
            refine wp_seq ?_
            refine R.list ?_
            refine S.val hf hs (v := .slice y4A y4.length y4C) rfl rfl rfl (V.pure rfl) (fun a hf => ?_)
            obtain ⟨h0x1, x1, hx1, h⟩ := h
            refine S.val hf hs (v := elemPtr y4A (0 * 1)) rfl rfl rfl (V.index rfl rfl rfl Tryz.runUnderlying74 Tryz.sizeOf9 (hs.ownSome 0 rfl (lt_of_get hx1)) h0x1 (lt_of_get hx1) rfl) (fun a hf => ?_)
            refine S.val hf hs (v := .string (ba x1)) rfl rfl rfl (V.loadOwn (off := 0) 0 rfl hx1 rfl rfl rfl Tryz.isAgg9 Tryz.sizeOf9 rfl rfl) (fun a hf => ?_)
            refine S.val hf hs (v := .bool (x1 == [112, 108, 97, 99, 101])) rfl rfl rfl (V.strCmp (x1 == [112, 108, 97, 99, 101]) rfl rfl rfl rfl) (fun a hf => ?_)
            refine R.nil ?_
            refine X.then_ ?_
            refine C.cond hf (b := x1 == [112, 108, 97, 99, 101]) rfl (fun hc => ?_) (fun hc => ?_)
            · replace h := h.1 hc
              refine wp_seq ?_
              refine R.list ?_
              refine S.alloc hf hs rfl rfl rfl [.string (ba []), .string (ba []), .int .i64 0, .int .i64 0, .int .i64 0, .bool false] rfl Tryz.zeroValue57 rfl (fun g2 a w hf hs => ?_)
              refine R.nil ?_
              refine X.then_ ?_
              refine wp_seq ?_
              refine R.list ?_
              refine S.val hf hs (v := .slice y4A y4.length y4C) rfl rfl rfl (V.pure rfl) (fun a hf => ?_)
              refine S.call hf rfl rfl rfl (call_fn (vs := [.slice y4A y4.length y4C]) rfl rfl rfl Tryz.call61) (R_ref10_readPlace y4 _ y4A y4C (hs.ownView 1 rfl) _ h) (fun v a w' hf hr => ?_)
              obtain ⟨y7, y8, rfl, h2, hs2⟩ := hr
              replace h := h2; replace hs := hs.call hs2; clear h2 hs2
              refine S.val hf hs (v := .tuple #[.agg #[.string (ba y7.Part), .string (ba y7.Typ), .int .i64 y7.At.X, .int .i64 y7.At.Y, .int .i64 y7.Quarters, .bool y7.Below], .bool y8]) rfl rfl rfl (V.pure rfl) (fun a hf => ?_)
              refine S.val hf hs (v := .agg #[.string (ba y7.Part), .string (ba y7.Typ), .int .i64 y7.At.X, .int .i64 y7.At.Y, .int .i64 y7.Quarters, .bool y7.Below]) rfl rfl rfl (V.pure rfl) (fun a hf => ?_)
              refine S.val hf hs (v := .bool y8) rfl rfl rfl (V.pure rfl) (fun a hf => ?_)
              refine S.storeBox 0 hf hs rfl rfl [.string (ba y7.Part), .string (ba y7.Typ), .int .i64 y7.At.X, .int .i64 y7.At.Y, .int .i64 y7.Quarters, .bool y7.Below] [.string (ba y7.Part), .string (ba y7.Typ), .int .i64 y7.At.X, .int .i64 y7.At.Y, .int .i64 y7.Quarters, .bool y7.Below] rfl rfl rfl rfl rfl Tryz.sizeOf57 rfl rfl rfl rfl (fun a w hf hs => ?_)
              refine S.val hf hs (v := .bool y8) rfl rfl rfl (V.pure rfl) (fun a hf => ?_)
              refine R.nil ?_
              refine X.then_ ?_
              refine R.list ?_
              refine S.val hf hs (v := .slice l3A l3.length l3C) rfl rfl rfl (V.pure rfl) (fun a hf => ?_)
              refine S.val hf hs (v := .agg #[.string (ba y7.Part), .string (ba y7.Typ), .int .i64 y7.At.X, .int .i64 y7.At.Y, .int .i64 y7.Quarters, .bool y7.Below]) rfl rfl rfl (V.loadBox 0 rfl rfl rfl Tryz.isAgg57 Tryz.sizeOf57 rfl rfl) (fun a hf => ?_)
              refine S.build1 hf hs rfl rfl rfl (α := Place) y7 rfl rfl rfl Tryz.runUnderlying47 Tryz.sizeOf57 Tryz.zeroValue57 rfl (by decide) (fun A3 a w hf hs => ?_)
              obtain ⟨hroom, h⟩ := h
              refine S.appendCells 3 hf hs rfl rfl rfl rfl rfl rfl rfl Tryz.underlying47 info57 rfl hroom ((hs.ownView 0 rfl).some_ (i := 0) (by simp)) (hs.ownView 0 rfl) (fun A4 C2 a w hf hs => ?_)
              replace hs := hs.drop
              refine S.val hf hs (v := .slice A4 (l3 ++ [y7]).length C2) rfl rfl rfl (V.pure rfl) (fun a hf => ?_)
              refine R.nil ?_
              refine X.then_ ?_
              exact ⟨(l3 ++ [y7]), A4, C2, l4, l4A, l4C, y8, h, ((((((hf.nil.cons (hf.get 13 _ rfl)).cons (hf.get 11 _ rfl)).cons (hf.get 10 _ rfl)).cons (hf.get 8 _ rfl)).cons (hf.get 7 _ rfl)).cons (hf.get 6 _ rfl)), hs.drop⟩
            · replace h := h.2 hc
              refine wp_skip ?_
              refine X.then_ ?_
              exact ⟨l3, l3A, l3C, l4, l4A, l4C, false, h, ((((((hf.nil.cons (hf.get 13 _ rfl)).cons (hf.get 11 _ rfl)).cons (hf.get 10 _ rfl)).cons (hf.get 8 _ rfl)).cons (hf.get 7 _ rfl)).cons (hf.get 6 _ rfl)), hs⟩
        · skip
          refine R.list ?_
          refine S.val hf hs (v := .slice y4A y4.length y4C) rfl rfl rfl (V.pure rfl) (fun a hf => ?_)
          obtain ⟨h0x2, x2, hx2, h⟩ := h
          refine S.val hf hs (v := elemPtr y4A (0 * 1)) rfl rfl rfl (V.index rfl rfl rfl Tryz.runUnderlying74 Tryz.sizeOf9 (hs.ownSome 0 rfl (lt_of_get hx2)) h0x2 (lt_of_get hx2) rfl) (fun a hf => ?_)
          refine S.val hf hs (v := .string (ba x2)) rfl rfl rfl (V.loadOwn (off := 0) 0 rfl hx2 rfl rfl rfl Tryz.isAgg9 Tryz.sizeOf9 rfl rfl) (fun a hf => ?_)
          refine S.val hf hs (v := .bool (x2 == [98, 111, 100, 121])) rfl rfl rfl (V.strCmp (x2 == [98, 111, 100, 121]) rfl rfl rfl rfl) (fun a hf => ?_)
          refine S.split hf hs (b := x2 == [98, 111, 100, 121]) rfl rfl rfl (V.pure rfl) (fun hc a hf => ?_) (fun hc a hf => ?_)
          · replace h := h.1 hc
            refine S.val hf hs (v := .slice l3A l3.length l3C) rfl rfl rfl (V.pure rfl) (fun a hf => ?_)
            refine S.val hf hs (v := .int .i64 (l3.length : Int)) rfl rfl rfl (V.len rfl rfl Tryz.runUnderlying47) (fun a hf => ?_)
            refine S.val hf hs (v := .bool ((l3.length : Int) == 0)) rfl rfl rfl (V.pure rfl) (fun a hf => ?_)
            refine S.val hf hs (v := .bool ((l3.length : Int) == 0)) rfl rfl rfl (V.pure rfl) (fun a hf => ?_)
            refine R.nil ?_
            refine X.then_ ?_
            exact ⟨((l3.length : Int) == 0), h, ((((((((hf.nil.cons (hf.get 40 _ rfl)).cons (hf.get 13 _ rfl)).cons (hf.get 12 _ rfl)).cons (hf.get 11 _ rfl)).cons (hf.get 10 _ rfl)).cons (hf.get 8 _ rfl)).cons (hf.get 7 _ rfl)).cons (hf.get 6 _ rfl)), hs⟩
          · replace h := h.2 hc
            refine S.skip hf rfl rfl rfl (fun a hf => ?_)
            refine S.skip hf rfl rfl rfl (fun a hf => ?_)
            refine S.skip hf rfl rfl rfl (fun a hf => ?_)
            refine S.val hf hs (v := .bool false) rfl rfl rfl (V.pure rfl) (fun a hf => ?_)
            refine R.nil ?_
            refine X.then_ ?_
            exact ⟨false, h, ((((((((hf.nil.cons (hf.get 40 _ rfl)).cons (hf.get 13 _ rfl)).cons (hf.get 12 _ rfl)).cons (hf.get 11 _ rfl)).cons (hf.get 10 _ rfl)).cons (hf.get 8 _ rfl)).cons (hf.get 7 _ rfl)).cons (hf.get 6 _ rfl)), hs⟩
    · replace h := h.2 hc
      refine wp_exit ?_
      refine X.then_exit ?_
      refine X.then_exit ?_
      refine X.blk_exit ?_
      refine X.then_ ?_
      refine wp_seq ?_
      refine wp_seq ?_
      refine R.list ?_
      refine S.val hf hs (v := .slice l4A l4.length l4C) rfl rfl rfl (V.pure rfl) (fun a hf => ?_)
      refine S.val hf hs (v := .slice l3A l3.length l3C) rfl rfl rfl (V.pure rfl) (fun a hf => ?_)
      refine S.call hf rfl rfl rfl (call_fn (vs := [.slice l4A l4.length l4C, .slice l3A l3.length l3C]) rfl rfl rfl Tryz.call62) (R_ref10_CheckPlaces l4 l3 _ l4A l4C (hs.ownView 1 rfl) l3A l3C (hs.ownView 0 rfl) _ h) (fun v a w' hf hr => ?_)
      obtain ⟨y9, rfl, h2, hs2⟩ := hr
      replace h := h2; replace hs := hs.call hs2; clear h2 hs2
      refine S.val hf hs (v := .int .i64 y9) rfl rfl rfl (V.pure rfl) (fun a hf => ?_)
      refine R.nil ?_
      refine X.then_ ?_
      refine wp_seq ?_
      refine R.list ?_
      refine S.val hf hs (v := .int .i64 y9) rfl rfl rfl (V.pure rfl) (fun a hf => ?_)
      refine S.val hf hs (v := .bool (y9 != 0)) rfl rfl rfl (V.pure rfl) (fun a hf => ?_)
      refine R.nil ?_
      refine X.then_ ?_
      refine C.cond hf (b := y9 != 0) rfl (fun hc => ?_) (fun hc => ?_)
      · replace h := h.1 hc
        refine wp_seq ?_
        refine R.list ?_
        refine S.val hf hs (v := .int .i64 y9) rfl rfl rfl (V.pure rfl) (fun a hf => ?_)
        refine S.val hf hs (v := .slice none 0 0) rfl rfl rfl (V.pure rfl) (fun a hf => ?_)
        refine S.val hf hs (v := .slice none 0 0) rfl rfl rfl (V.pure rfl) (fun a hf => ?_)
        refine S.val hf hs (v := .int .i64 0) rfl rfl rfl (V.pure rfl) (fun a hf => ?_)
        refine S.val hf hs (v := .int .i64 y9) rfl rfl rfl (V.pure rfl) (fun a hf => ?_)
        refine R.nil ?_
        refine X.then_ ?_
        refine wp_ret ?_
        refine X.then_ret ?_
        replace hs := hs.nilOwn (α := Body) 52
        replace hs := hs.nilOwn (α := Place) 57
        replace hs := hs.front 1 rfl
        replace hs := hs.take 2
        exact L.ret hf (run_results4 Tryz.results24 (ResIs.tmp hf rfl) (ResIs.tmp hf rfl) (ResIs.tmp hf rfl) (ResIs.tmp hf rfl)) ⟨([] : List Body), none, 0, ([] : List Place), none, 0, 0, y9, rfl, h, hs⟩
      · replace h := h.2 hc
        refine wp_skip ?_
        refine X.then_ ?_
        refine wp_seq ?_
        refine R.list ?_
        refine S.val hf hs (v := .slice l4A l4.length l4C) rfl rfl rfl (V.pure rfl) (fun a hf => ?_)
        refine S.val hf hs (v := .slice l3A l3.length l3C) rfl rfl rfl (V.pure rfl) (fun a hf => ?_)
        refine S.val hf hs (v := .slice l4A l4.length l4C) rfl rfl rfl (V.pure rfl) (fun a hf => ?_)
        refine S.val hf hs (v := .slice l3A l3.length l3C) rfl rfl rfl (V.pure rfl) (fun a hf => ?_)
        refine S.val hf hs (v := .int .i64 0) rfl rfl rfl (V.pure rfl) (fun a hf => ?_)
        refine S.val hf hs (v := .int .i64 0) rfl rfl rfl (V.pure rfl) (fun a hf => ?_)
        refine R.nil ?_
        refine X.then_ ?_
        refine wp_ret ?_
        replace hs := hs.front 1 rfl
        replace hs := hs.take 2
        exact L.ret hf (run_results4 Tryz.results24 (ResIs.tmp hf rfl) (ResIs.tmp hf rfl) (ResIs.tmp hf rfl) (ResIs.tmp hf rfl)) ⟨l4, l4A, l4C, l3, l3A, l3C, 0, 0, rfl, h, hs⟩

set_option linter.unusedVariables false
def M_equal_body_L1 (s2 : (List Body)) (Q : Bool → Prop) (k1 : Nat) (xk1 : Body)  (next1 : Prop) : Prop :=
  idx s2 (k1 : Int) fun x1 => cnd (!(decide (xk1 = x1))) (Q false) (next1)
def M_equal_body (s1 : (List Body)) (s2 : (List Body)) (Q : Bool → Prop) : Prop :=
  cnd ((s1.length : Int) != (s2.length : Int)) (Q false) (forIn' (fun k x (s : Unit) next => M_equal_body_L1 s2 Q k x (next ())) (fun (s : Unit) => Q true) s1 0 ())
set_option maxHeartbeats 1000000 in
theorem R_equal_body (s1 : (List Body)) (s2 : (List Body)) (w0 : World) (s1A : Option Addr) (s1C : Nat) (hv_s1 : View w0 (old w0 none_) s1A s1C s1) (s2A : Option Addr) (s2C : Nat) (hv_s2 : View w0 (old w0 none_) s2A s2C s2) (Q : Bool → Prop) (h : M_equal_body s1 s2 Q) :
    Ret Tryz.prog 25 #[.slice s1A s1.length s1C, .slice s2A s2.length s2C] w0 fun v w' => ∃ (r0 : Bool), v = .bool r0 ∧ Q r0 ∧ Sat w0 none_ [] w' := by
  refine fn_enter Tryz.func25 rfl Tryz.ntmps25 rfl (fs := [(0, .slice s1A s1.length s1C), (1, .slice s2A s2.length s2C)]) rfl (fun a hf => ?_)
  have hs := Sat.start w0 none_
  unfold M_equal_body at h
  refine wp_seq ?_
  refine R.list ?_
  refine S.val hf hs (v := .bool false) rfl rfl rfl (V.pure rfl) (fun a hf => ?_)
  refine R.nil ?_
  refine X.then_ ?_
  refine wp_seq ?_
  refine wp_seq ?_
  refine R.list ?_
  refine S.val hf hs (v := .slice s1A s1.length s1C) rfl rfl rfl (V.pure rfl) (fun a hf => ?_)
  refine S.val hf hs (v := .int .i64 (s1.length : Int)) rfl rfl rfl (V.len rfl rfl Tryz.runUnderlying46) (fun a hf => ?_)
  refine S.val hf hs (v := .slice s2A s2.length s2C) rfl rfl rfl (V.pure rfl) (fun a hf => ?_)
  refine S.val hf hs (v := .int .i64 (s2.length : Int)) rfl rfl rfl (V.len rfl rfl Tryz.runUnderlying46) (fun a hf => ?_)
  refine S.val hf hs (v := .bool ((s1.length : Int) != (s2.length : Int))) rfl rfl rfl (V.pure rfl) (fun a hf => ?_)
  refine R.nil ?_
  refine X.then_ ?_
  refine C.cond hf (b := (s1.length : Int) != (s2.length : Int)) rfl (fun hc => ?_) (fun hc => ?_)
  · replace h := h.1 hc
    refine wp_seq ?_
    refine R.list ?_
    refine S.val hf hs (v := .bool false) rfl rfl rfl (V.pure rfl) (fun a hf => ?_)
    refine R.nil ?_
    refine X.then_ ?_
    refine wp_ret ?_
    refine X.then_ret ?_
    exact L.ret hf (run_results1 Tryz.results25 (ResIs.tmp hf rfl)) ⟨false, rfl, h, hs.nil⟩
  · replace h := h.2 hc
    refine wp_skip ?_
    refine X.then_ ?_
    refine wp_seq ?_
    refine wp_seq ?_
    refine R.list ?_
    refine S.val hf hs (v := .slice s1A s1.length s1C) rfl rfl rfl (V.pure rfl) (fun a hf => ?_)
    refine S.val hf hs (v := .int .i64 (s1.length : Int)) rfl rfl rfl (V.len rfl rfl Tryz.runUnderlying46) (fun a hf => ?_)
    refine S.val hf hs (v := .int .i64 0) rfl rfl rfl (V.pure rfl) (fun a hf => ?_)
    refine R.nil ?_
    refine X.then_ ?_
    refine wp_block ?_
    have hlenk1 := hv_s1.len64
    refine C.range (fun (ll : List Body) a w => ∃ (k1 : Nat) , s1.drop k1 = ll ∧ k1 + ll.length = s1.length ∧ forIn' (fun k x (s : Unit) next => M_equal_body_L1 s2 Q k x (next ())) (fun (s : Unit) => Q true) ll k1 () ∧ FrOk 26 [(13, .int .i64 (k1 : Int)), (0, .slice s1A s1.length s1C), (1, .slice s2A s2.length s2C), (12, .int .i64 (s1.length : Int))] a ∧ Sat w0 none_ [] w) s1 ⟨0, rfl, Nat.zero_add _, h, ((((hf.nil.cons (hf.get 12 _ rfl)).cons (hf.get 1 _ rfl)).cons (hf.get 0 _ rfl)).cons (hf.get 13 _ rfl)), hs⟩ ?_
    clear h hf hs
    rintro llk1 a w ⟨k1, hlk1, hkk1, h, hf, hs⟩
    cases llk1 with
    | nil =>
      have hc := range_done hkk1
      replace h : Q true := h
      refine wp_seq ?_
      refine R.list ?_
      refine S.val hf hs (v := .bool false) rfl rfl rfl (V.cmp false rfl rfl rfl rfl hc) (fun a hf => ?_)
      refine R.nil ?_
      refine X.then_ ?_
      refine wp_seq ?_
      refine C.no hf rfl ?_
      refine wp_exit ?_
      refine X.then_exit ?_
      refine X.then_exit ?_
      refine X.blk_exit ?_
      refine X.then_ ?_
      refine wp_seq ?_
      refine R.list ?_
      refine S.val hf hs (v := .bool true) rfl rfl rfl (V.pure rfl) (fun a hf => ?_)
      refine R.nil ?_
      refine X.then_ ?_
      refine wp_ret ?_
      exact L.ret hf (run_results1 Tryz.results25 (ResIs.tmp hf rfl)) ⟨true, rfl, h, hs.nil⟩
    | cons xk1 llk1 =>
      have hltk1 := range_lt hkk1; have hc := range_go hkk1; have hxk1 := range_get hlk1
      obtain ⟨next1, hnext1⟩ : ∃ X : Prop, X = (forIn' (fun k x (s : Unit) next => M_equal_body_L1 s2 Q k x (next ())) (fun (s : Unit) => Q true) llk1 (k1 + 1) ()) := ⟨_, rfl⟩
      replace h : M_equal_body_L1 s2 Q k1 xk1  next1 := by rw [hnext1]; exact h
      unfold M_equal_body_L1 at h
      refine wp_seq ?_
      refine R.list ?_
      refine S.val hf hs (v := .bool true) rfl rfl rfl (V.cmp true rfl rfl rfl rfl hc) (fun a hf => ?_)
      refine R.nil ?_
      refine X.then_ ?_
      refine wp_seq ?_
      refine C.yes hf rfl ?_
      refine wp_skip ?_
      refine X.then_ ?_
      refine wp_seq ?_
      refine wp_block ?_
      refine wp_seq ?_
      refine R.list ?_
      refine S.val hf hs (v := .int .i64 (k1 : Int)) rfl rfl rfl (V.pure rfl) (fun a hf => ?_)
      refine S.val hf hs (v := .int .i64 (k1 : Int)) rfl rfl rfl (V.pure rfl) (fun a hf => ?_)
      refine R.nil ?_
      refine X.then_ ?_
      refine wp_seq ?_
      refine R.draw mo (by kernel_rfl) hs ?_
      refine D.val hf (v := .slice s1A s1.length s1C) rfl rfl rfl (V.pure rfl) (fun a hf => ?_)
      refine D.val hf (v := .int .i64 (k1 : Int)) rfl rfl rfl (V.pure rfl) (fun a hf => ?_)
      refine D.val hf (v := elemPtr s1A (k1 * 5)) rfl rfl rfl (V.index rfl rfl rfl Tryz.runUnderlying46 Tryz.sizeOf52 (hv_s1.some_ (lt_of_get hxk1)) (Int.natCast_nonneg _) (lt_of_get hxk1) rfl) (fun a hf => ?_)
      refine D.val hf (v := .agg #[.string (ba xk1.Typ), .int .i64 xk1.W, .int .i64 xk1.H, .int .i64 xk1.Tall, .string (ba xk1.Nozzle)]) rfl rfl rfl (V.loadEl (off := 0) (Ag.args _ _ _) (hv_s1.flat hxk1) rfl rfl rfl Tryz.isAgg52 Tryz.sizeOf52 rfl rfl) (fun a hf => ?_)
      refine D.val hf (v := .slice s2A s2.length s2C) rfl rfl rfl (V.pure rfl) (fun a hf => ?_)
      refine D.val hf (v := .int .i64 (k1 : Int)) rfl rfl rfl (V.pure rfl) (fun a hf => ?_)
      obtain ⟨h0x1, x1, hx1, h⟩ := h
      refine D.val hf (v := elemPtr s2A (k1 * 5)) rfl rfl rfl (V.index rfl rfl rfl Tryz.runUnderlying46 Tryz.sizeOf52 (hv_s2.some_ (lt_of_get hx1)) (Int.natCast_nonneg _) (lt_of_get hx1) rfl) (fun a hf => ?_)
      refine D.val hf (v := .agg #[.string (ba x1.Typ), .int .i64 x1.W, .int .i64 x1.H, .int .i64 x1.Tall, .string (ba x1.Nozzle)]) rfl rfl rfl (V.loadEl (off := 0) (Ag.args _ _ _) (hv_s2.flat hx1) rfl rfl rfl Tryz.isAgg52 Tryz.sizeOf52 rfl rfl) (fun a hf => ?_)
      refine D.val hf (v := .bool (!(decide (xk1 = x1)))) rfl rfl rfl (V.aggneq rfl rfl rfl (by kernel_rfl) (fun w => eqS52 xk1 x1 w)) (fun a hf => ?_)
      refine D.done (fun w hs => ?_)
      refine X.then_ ?_
      refine C.cond hf (b := !(decide (xk1 = x1))) rfl (fun hc => ?_) (fun hc => ?_)
      · replace h := h.1 hc
        refine wp_seq ?_
        refine R.list ?_
        refine S.val hf hs (v := .bool false) rfl rfl rfl (V.pure rfl) (fun a hf => ?_)
        refine R.nil ?_
        refine X.then_ ?_
        refine wp_ret ?_
        refine X.blk_ret ?_
        refine X.then_ret ?_
        refine X.then_ret ?_
        refine X.blk_ret ?_
        refine X.then_ret ?_
        exact L.ret hf (run_results1 Tryz.results25 (ResIs.tmp hf rfl)) ⟨false, rfl, h, hs.nil⟩
      · replace h := h.2 hc
        refine wp_skip ?_
        refine X.blk ?_
        refine X.then_ ?_
        refine R.list ?_
        refine S.val hf hs (v := .int .i64 ((k1 + 1 : Nat) : Int)) rfl rfl rfl (V.incr rfl rfl rfl hltk1 hlenk1) (fun a hf => ?_)
        refine S.val hf hs (v := .int .i64 ((k1 + 1 : Nat) : Int)) rfl rfl rfl (V.pure rfl) (fun a hf => ?_)
        refine R.nil ?_
        refine X.then_ ?_
        exact ⟨xk1, llk1, rfl, k1 + 1, range_drop hlk1, range_len hkk1, (by rw [hnext1] at h; exact h), ((((hf.nil.cons (hf.get 12 _ rfl)).cons (hf.get 1 _ rfl)).cons (hf.get 0 _ rfl)).cons (hf.get 13 _ rfl)), hs⟩

set_option linter.unusedVariables false
def M_equal_place_L1 (s2 : (List Place)) (Q : Bool → Prop) (k1 : Nat) (xk1 : Place)  (next1 : Prop) : Prop :=
  idx s2 (k1 : Int) fun x1 => cnd (!(decide (xk1 = x1))) (Q false) (next1)
def M_equal_place (s1 : (List Place)) (s2 : (List Place)) (Q : Bool → Prop) : Prop :=
  cnd ((s1.length : Int) != (s2.length : Int)) (Q false) (forIn' (fun k x (s : Unit) next => M_equal_place_L1 s2 Q k x (next ())) (fun (s : Unit) => Q true) s1 0 ())
set_option maxHeartbeats 1000000 in
theorem R_equal_place (s1 : (List Place)) (s2 : (List Place)) (w0 : World) (s1A : Option Addr) (s1C : Nat) (hv_s1 : View w0 (old w0 none_) s1A s1C s1) (s2A : Option Addr) (s2C : Nat) (hv_s2 : View w0 (old w0 none_) s2A s2C s2) (Q : Bool → Prop) (h : M_equal_place s1 s2 Q) :
    Ret Tryz.prog 26 #[.slice s1A s1.length s1C, .slice s2A s2.length s2C] w0 fun v w' => ∃ (r0 : Bool), v = .bool r0 ∧ Q r0 ∧ Sat w0 none_ [] w' := by
  refine fn_enter Tryz.func26 rfl Tryz.ntmps26 rfl (fs := [(0, .slice s1A s1.length s1C), (1, .slice s2A s2.length s2C)]) rfl (fun a hf => ?_)
  have hs := Sat.start w0 none_
  unfold M_equal_place at h
  refine wp_seq ?_
  refine R.list ?_
  refine S.val hf hs (v := .bool false) rfl rfl rfl (V.pure rfl) (fun a hf => ?_)
  refine R.nil ?_
  refine X.then_ ?_
  refine wp_seq ?_
  refine wp_seq ?_
  refine R.list ?_
  refine S.val hf hs (v := .slice s1A s1.length s1C) rfl rfl rfl (V.pure rfl) (fun a hf => ?_)
  refine S.val hf hs (v := .int .i64 (s1.length : Int)) rfl rfl rfl (V.len rfl rfl Tryz.runUnderlying47) (fun a hf => ?_)
  refine S.val hf hs (v := .slice s2A s2.length s2C) rfl rfl rfl (V.pure rfl) (fun a hf => ?_)
  refine S.val hf hs (v := .int .i64 (s2.length : Int)) rfl rfl rfl (V.len rfl rfl Tryz.runUnderlying47) (fun a hf => ?_)
  refine S.val hf hs (v := .bool ((s1.length : Int) != (s2.length : Int))) rfl rfl rfl (V.pure rfl) (fun a hf => ?_)
  refine R.nil ?_
  refine X.then_ ?_
  refine C.cond hf (b := (s1.length : Int) != (s2.length : Int)) rfl (fun hc => ?_) (fun hc => ?_)
  · replace h := h.1 hc
    refine wp_seq ?_
    refine R.list ?_
    refine S.val hf hs (v := .bool false) rfl rfl rfl (V.pure rfl) (fun a hf => ?_)
    refine R.nil ?_
    refine X.then_ ?_
    refine wp_ret ?_
    refine X.then_ret ?_
    exact L.ret hf (run_results1 Tryz.results26 (ResIs.tmp hf rfl)) ⟨false, rfl, h, hs.nil⟩
  · replace h := h.2 hc
    refine wp_skip ?_
    refine X.then_ ?_
    refine wp_seq ?_
    refine wp_seq ?_
    refine R.list ?_
    refine S.val hf hs (v := .slice s1A s1.length s1C) rfl rfl rfl (V.pure rfl) (fun a hf => ?_)
    refine S.val hf hs (v := .int .i64 (s1.length : Int)) rfl rfl rfl (V.len rfl rfl Tryz.runUnderlying47) (fun a hf => ?_)
    refine S.val hf hs (v := .int .i64 0) rfl rfl rfl (V.pure rfl) (fun a hf => ?_)
    refine R.nil ?_
    refine X.then_ ?_
    refine wp_block ?_
    have hlenk1 := hv_s1.len64
    refine C.range (fun (ll : List Place) a w => ∃ (k1 : Nat) , s1.drop k1 = ll ∧ k1 + ll.length = s1.length ∧ forIn' (fun k x (s : Unit) next => M_equal_place_L1 s2 Q k x (next ())) (fun (s : Unit) => Q true) ll k1 () ∧ FrOk 26 [(13, .int .i64 (k1 : Int)), (0, .slice s1A s1.length s1C), (1, .slice s2A s2.length s2C), (12, .int .i64 (s1.length : Int))] a ∧ Sat w0 none_ [] w) s1 ⟨0, rfl, Nat.zero_add _, h, ((((hf.nil.cons (hf.get 12 _ rfl)).cons (hf.get 1 _ rfl)).cons (hf.get 0 _ rfl)).cons (hf.get 13 _ rfl)), hs⟩ ?_
    clear h hf hs
    rintro llk1 a w ⟨k1, hlk1, hkk1, h, hf, hs⟩
    cases llk1 with
    | nil =>
      have hc := range_done hkk1
      replace h : Q true := h
      refine wp_seq ?_
      refine R.list ?_
      refine S.val hf hs (v := .bool false) rfl rfl rfl (V.cmp false rfl rfl rfl rfl hc) (fun a hf => ?_)
      refine R.nil ?_
      refine X.then_ ?_
      refine wp_seq ?_
      refine C.no hf rfl ?_
      refine wp_exit ?_
      refine X.then_exit ?_
      refine X.then_exit ?_
      refine X.blk_exit ?_
      refine X.then_ ?_
      refine wp_seq ?_
      refine R.list ?_
      refine S.val hf hs (v := .bool true) rfl rfl rfl (V.pure rfl) (fun a hf => ?_)
      refine R.nil ?_
      refine X.then_ ?_
      refine wp_ret ?_
      exact L.ret hf (run_results1 Tryz.results26 (ResIs.tmp hf rfl)) ⟨true, rfl, h, hs.nil⟩
    | cons xk1 llk1 =>
      have hltk1 := range_lt hkk1; have hc := range_go hkk1; have hxk1 := range_get hlk1
      obtain ⟨next1, hnext1⟩ : ∃ X : Prop, X = (forIn' (fun k x (s : Unit) next => M_equal_place_L1 s2 Q k x (next ())) (fun (s : Unit) => Q true) llk1 (k1 + 1) ()) := ⟨_, rfl⟩
      replace h : M_equal_place_L1 s2 Q k1 xk1  next1 := by rw [hnext1]; exact h
      unfold M_equal_place_L1 at h
      refine wp_seq ?_
      refine R.list ?_
      refine S.val hf hs (v := .bool true) rfl rfl rfl (V.cmp true rfl rfl rfl rfl hc) (fun a hf => ?_)
      refine R.nil ?_
      refine X.then_ ?_
      refine wp_seq ?_
      refine C.yes hf rfl ?_
      refine wp_skip ?_
      refine X.then_ ?_
      refine wp_seq ?_
      refine wp_block ?_
      refine wp_seq ?_
      refine R.list ?_
      refine S.val hf hs (v := .int .i64 (k1 : Int)) rfl rfl rfl (V.pure rfl) (fun a hf => ?_)
      refine S.val hf hs (v := .int .i64 (k1 : Int)) rfl rfl rfl (V.pure rfl) (fun a hf => ?_)
      refine R.nil ?_
      refine X.then_ ?_
      refine wp_seq ?_
      refine R.draw mo (by kernel_rfl) hs ?_
      refine D.val hf (v := .slice s1A s1.length s1C) rfl rfl rfl (V.pure rfl) (fun a hf => ?_)
      refine D.val hf (v := .int .i64 (k1 : Int)) rfl rfl rfl (V.pure rfl) (fun a hf => ?_)
      refine D.val hf (v := elemPtr s1A (k1 * 6)) rfl rfl rfl (V.index rfl rfl rfl Tryz.runUnderlying47 Tryz.sizeOf57 (hv_s1.some_ (lt_of_get hxk1)) (Int.natCast_nonneg _) (lt_of_get hxk1) rfl) (fun a hf => ?_)
      refine D.val hf (v := .agg #[.string (ba xk1.Part), .string (ba xk1.Typ), .int .i64 xk1.At.X, .int .i64 xk1.At.Y, .int .i64 xk1.Quarters, .bool xk1.Below]) rfl rfl rfl (V.loadEl (off := 0) (Ag.args _ _ _) (hv_s1.flat hxk1) rfl rfl rfl Tryz.isAgg57 Tryz.sizeOf57 rfl rfl) (fun a hf => ?_)
      refine D.val hf (v := .slice s2A s2.length s2C) rfl rfl rfl (V.pure rfl) (fun a hf => ?_)
      refine D.val hf (v := .int .i64 (k1 : Int)) rfl rfl rfl (V.pure rfl) (fun a hf => ?_)
      obtain ⟨h0x1, x1, hx1, h⟩ := h
      refine D.val hf (v := elemPtr s2A (k1 * 6)) rfl rfl rfl (V.index rfl rfl rfl Tryz.runUnderlying47 Tryz.sizeOf57 (hv_s2.some_ (lt_of_get hx1)) (Int.natCast_nonneg _) (lt_of_get hx1) rfl) (fun a hf => ?_)
      refine D.val hf (v := .agg #[.string (ba x1.Part), .string (ba x1.Typ), .int .i64 x1.At.X, .int .i64 x1.At.Y, .int .i64 x1.Quarters, .bool x1.Below]) rfl rfl rfl (V.loadEl (off := 0) (Ag.args _ _ _) (hv_s2.flat hx1) rfl rfl rfl Tryz.isAgg57 Tryz.sizeOf57 rfl rfl) (fun a hf => ?_)
      refine D.val hf (v := .bool (!(decide (xk1 = x1)))) rfl rfl rfl (V.aggneq rfl rfl rfl (by kernel_rfl) (fun w => eqS57 xk1 x1 w)) (fun a hf => ?_)
      refine D.done (fun w hs => ?_)
      refine X.then_ ?_
      refine C.cond hf (b := !(decide (xk1 = x1))) rfl (fun hc => ?_) (fun hc => ?_)
      · replace h := h.1 hc
        refine wp_seq ?_
        refine R.list ?_
        refine S.val hf hs (v := .bool false) rfl rfl rfl (V.pure rfl) (fun a hf => ?_)
        refine R.nil ?_
        refine X.then_ ?_
        refine wp_ret ?_
        refine X.blk_ret ?_
        refine X.then_ret ?_
        refine X.then_ret ?_
        refine X.blk_ret ?_
        refine X.then_ret ?_
        exact L.ret hf (run_results1 Tryz.results26 (ResIs.tmp hf rfl)) ⟨false, rfl, h, hs.nil⟩
      · replace h := h.2 hc
        refine wp_skip ?_
        refine X.blk ?_
        refine X.then_ ?_
        refine R.list ?_
        refine S.val hf hs (v := .int .i64 ((k1 + 1 : Nat) : Int)) rfl rfl rfl (V.incr rfl rfl rfl hltk1 hlenk1) (fun a hf => ?_)
        refine S.val hf hs (v := .int .i64 ((k1 + 1 : Nat) : Int)) rfl rfl rfl (V.pure rfl) (fun a hf => ?_)
        refine R.nil ?_
        refine X.then_ ?_
        exact ⟨xk1, llk1, rfl, k1 + 1, range_drop hlk1, range_len hkk1, (by rw [hnext1] at h; exact h), ((((hf.nil.cons (hf.get 12 _ rfl)).cons (hf.get 1 _ rfl)).cons (hf.get 0 _ rfl)).cons (hf.get 13 _ rfl)), hs⟩

set_option linter.unusedVariables false
def M_law_MountReads (text : Str) (Q : Bool → Prop) : Prop :=
  M_mount_Read text fun y1 y2 y3 y4 => M_ref10_Read text fun y5 y6 y7 y8 => cnd (y4 == y8) (cnd (y3 == y7) (M_equal_body y1 y5 fun y9 => cnd y9 (M_equal_place y2 y6 fun y10 => cnd y10 (M_awake  fun y11 => Q y11) (Q false)) (Q false)) (Q false)) (Q false)
set_option maxHeartbeats 1000000 in
theorem R_law_MountReads (text : Str) (w0 : World)  (Q : Bool → Prop) (h : M_law_MountReads text Q) :
    Ret Tryz.prog 6 #[.string (ba text)] w0 fun v w' => ∃ (r0 : Bool), v = .bool r0 ∧ Q r0 ∧ Sat w0 none_ [] w' := by
  refine fn_enter Tryz.func6 rfl Tryz.ntmps6 rfl (fs := [(0, .string (ba text))]) rfl (fun a hf => ?_)
  have hs := Sat.start w0 none_
  unfold M_law_MountReads at h
  refine wp_seq ?_
  refine R.list ?_
  refine S.val hf hs (v := .bool false) rfl rfl rfl (V.pure rfl) (fun a hf => ?_)
  refine R.nil ?_
  refine X.then_ ?_
  refine wp_seq ?_
  refine R.list ?_
  refine S.val hf hs (v := .string (ba text)) rfl rfl rfl (V.pure rfl) (fun a hf => ?_)
  refine S.call hf rfl rfl rfl (call_fn (vs := [.string (ba text)]) rfl rfl rfl Tryz.call23) (R_mount_Read text _  _ h) (fun v a w' hf hr => ?_)
  obtain ⟨y1, y1A, y1C, y2, y2A, y2C, y3, y4, rfl, h2, hs2⟩ := hr
  replace h := h2; replace hs := hs.call hs2; clear h2 hs2
  refine S.val hf hs (v := .tuple #[.slice y1A y1.length y1C, .slice y2A y2.length y2C, .int .i64 y3, .int .i64 y4]) rfl rfl rfl (V.pure rfl) (fun a hf => ?_)
  refine S.val hf hs (v := .slice y1A y1.length y1C) rfl rfl rfl (V.pure rfl) (fun a hf => ?_)
  refine S.val hf hs (v := .slice y2A y2.length y2C) rfl rfl rfl (V.pure rfl) (fun a hf => ?_)
  refine S.val hf hs (v := .int .i64 y3) rfl rfl rfl (V.pure rfl) (fun a hf => ?_)
  refine S.val hf hs (v := .int .i64 y4) rfl rfl rfl (V.pure rfl) (fun a hf => ?_)
  refine S.val hf hs (v := .slice y1A y1.length y1C) rfl rfl rfl (V.pure rfl) (fun a hf => ?_)
  refine S.val hf hs (v := .slice y2A y2.length y2C) rfl rfl rfl (V.pure rfl) (fun a hf => ?_)
  refine S.val hf hs (v := .int .i64 y3) rfl rfl rfl (V.pure rfl) (fun a hf => ?_)
  refine S.val hf hs (v := .int .i64 y4) rfl rfl rfl (V.pure rfl) (fun a hf => ?_)
  refine R.nil ?_
  refine X.then_ ?_
  refine wp_seq ?_
  refine R.list ?_
  refine S.val hf hs (v := .string (ba text)) rfl rfl rfl (V.pure rfl) (fun a hf => ?_)
  refine S.call hf rfl rfl rfl (call_fn (vs := [.string (ba text)]) rfl rfl rfl Tryz.call24) (R_ref10_Read text _  _ h) (fun v a w' hf hr => ?_)
  obtain ⟨y5, y5A, y5C, y6, y6A, y6C, y7, y8, rfl, h2, hs2⟩ := hr
  replace h := h2; replace hs := hs.call hs2; clear h2 hs2
  refine S.val hf hs (v := .tuple #[.slice y5A y5.length y5C, .slice y6A y6.length y6C, .int .i64 y7, .int .i64 y8]) rfl rfl rfl (V.pure rfl) (fun a hf => ?_)
  refine S.val hf hs (v := .slice y5A y5.length y5C) rfl rfl rfl (V.pure rfl) (fun a hf => ?_)
  refine S.val hf hs (v := .slice y6A y6.length y6C) rfl rfl rfl (V.pure rfl) (fun a hf => ?_)
  refine S.val hf hs (v := .int .i64 y7) rfl rfl rfl (V.pure rfl) (fun a hf => ?_)
  refine S.val hf hs (v := .int .i64 y8) rfl rfl rfl (V.pure rfl) (fun a hf => ?_)
  refine S.val hf hs (v := .slice y5A y5.length y5C) rfl rfl rfl (V.pure rfl) (fun a hf => ?_)
  refine S.val hf hs (v := .slice y6A y6.length y6C) rfl rfl rfl (V.pure rfl) (fun a hf => ?_)
  refine S.val hf hs (v := .int .i64 y7) rfl rfl rfl (V.pure rfl) (fun a hf => ?_)
  refine S.val hf hs (v := .int .i64 y8) rfl rfl rfl (V.pure rfl) (fun a hf => ?_)
  refine R.nil ?_
  refine X.then_ ?_
  refine wp_seq ?_
  refine R.list ?_
  refine S.val hf hs (v := .int .i64 y4) rfl rfl rfl (V.pure rfl) (fun a hf => ?_)
  refine S.val hf hs (v := .int .i64 y8) rfl rfl rfl (V.pure rfl) (fun a hf => ?_)
  refine S.val hf hs (v := .bool (y4 == y8)) rfl rfl rfl (V.pure rfl) (fun a hf => ?_)
  refine S.split hf hs (b := y4 == y8) rfl rfl rfl (V.pure rfl) (fun hc a hf => ?_) (fun hc a hf => ?_)
  · replace h := h.1 hc
    refine S.val hf hs (v := .int .i64 y3) rfl rfl rfl (V.pure rfl) (fun a hf => ?_)
    refine S.val hf hs (v := .int .i64 y7) rfl rfl rfl (V.pure rfl) (fun a hf => ?_)
    refine S.val hf hs (v := .bool (y3 == y7)) rfl rfl rfl (V.pure rfl) (fun a hf => ?_)
    refine S.val hf hs (v := .bool (y3 == y7)) rfl rfl rfl (V.pure rfl) (fun a hf => ?_)
    refine S.split hf hs (b := y3 == y7) rfl rfl rfl (V.pure rfl) (fun hc a hf => ?_) (fun hc a hf => ?_)
    · replace h := h.1 hc
      refine S.val hf hs (v := .slice y1A y1.length y1C) rfl rfl rfl (V.pure rfl) (fun a hf => ?_)
      refine S.val hf hs (v := .slice y5A y5.length y5C) rfl rfl rfl (V.pure rfl) (fun a hf => ?_)
      refine S.call hf rfl rfl rfl (call_fn (vs := [.slice y1A y1.length y1C, .slice y5A y5.length y5C]) rfl rfl rfl Tryz.call25) (R_equal_body y1 y5 _ y1A y1C (hs.ownView 2 rfl) y5A y5C (hs.ownView 0 rfl) _ h) (fun v a w' hf hr => ?_)
      obtain ⟨y9, rfl, h2, hs2⟩ := hr
      replace h := h2; replace hs := hs.call hs2; clear h2 hs2
      refine S.val hf hs (v := .bool y9) rfl rfl rfl (V.pure rfl) (fun a hf => ?_)
      refine S.split hf hs (b := y9) rfl rfl rfl (V.pure rfl) (fun hc a hf => ?_) (fun hc a hf => ?_)
      · replace h := h.1 hc
        refine S.val hf hs (v := .slice y2A y2.length y2C) rfl rfl rfl (V.pure rfl) (fun a hf => ?_)
        refine S.val hf hs (v := .slice y6A y6.length y6C) rfl rfl rfl (V.pure rfl) (fun a hf => ?_)
        refine S.call hf rfl rfl rfl (call_fn (vs := [.slice y2A y2.length y2C, .slice y6A y6.length y6C]) rfl rfl rfl Tryz.call26) (R_equal_place y2 y6 _ y2A y2C (hs.ownView 3 rfl) y6A y6C (hs.ownView 1 rfl) _ h) (fun v a w' hf hr => ?_)
        obtain ⟨y10, rfl, h2, hs2⟩ := hr
        replace h := h2; replace hs := hs.call hs2; clear h2 hs2
        refine S.val hf hs (v := .bool y10) rfl rfl rfl (V.pure rfl) (fun a hf => ?_)
        refine S.split hf hs (b := y10) rfl rfl rfl (V.pure rfl) (fun hc a hf => ?_) (fun hc a hf => ?_)
        · replace h := h.1 hc
          refine S.call hf rfl rfl rfl (call_fn (vs := []) rfl rfl rfl Tryz.call27) (R_awake  _  _ h) (fun v a w' hf hr => ?_)
          obtain ⟨y11, rfl, h2, hs2⟩ := hr
          replace h := h2; replace hs := hs.call hs2; clear h2 hs2
          refine S.val hf hs (v := .bool y11) rfl rfl rfl (V.pure rfl) (fun a hf => ?_)
          refine S.val hf hs (v := .bool y11) rfl rfl rfl (V.pure rfl) (fun a hf => ?_)
          refine R.nil ?_
          refine X.then_ ?_
          refine wp_ret ?_
          exact L.ret hf (run_results1 Tryz.results6 (ResIs.tmp hf rfl)) ⟨y11, rfl, h, hs.nil⟩
        · replace h := h.2 hc
          refine S.skip hf rfl rfl rfl (fun a hf => ?_)
          refine S.val hf hs (v := .bool false) rfl rfl rfl (V.pure rfl) (fun a hf => ?_)
          refine S.val hf hs (v := .bool false) rfl rfl rfl (V.pure rfl) (fun a hf => ?_)
          refine R.nil ?_
          refine X.then_ ?_
          refine wp_ret ?_
          exact L.ret hf (run_results1 Tryz.results6 (ResIs.tmp hf rfl)) ⟨false, rfl, h, hs.nil⟩
      · replace h := h.2 hc
        refine S.skip hf rfl rfl rfl (fun a hf => ?_)
        refine S.skip hf rfl rfl rfl (fun a hf => ?_)
        refine S.skip hf rfl rfl rfl (fun a hf => ?_)
        refine S.val hf hs (v := .bool false) rfl rfl rfl (V.pure rfl) (fun a hf => ?_)
        refine S.val hf hs (v := .bool false) rfl rfl rfl (V.pure rfl) (fun a hf => ?_)
        refine S.skip hf rfl rfl rfl (fun a hf => ?_)
        refine S.val hf hs (v := .bool false) rfl rfl rfl (V.pure rfl) (fun a hf => ?_)
        refine S.val hf hs (v := .bool false) rfl rfl rfl (V.pure rfl) (fun a hf => ?_)
        refine R.nil ?_
        refine X.then_ ?_
        refine wp_ret ?_
        exact L.ret hf (run_results1 Tryz.results6 (ResIs.tmp hf rfl)) ⟨false, rfl, h, hs.nil⟩
    · replace h := h.2 hc
      refine S.skip hf rfl rfl rfl (fun a hf => ?_)
      refine S.skip hf rfl rfl rfl (fun a hf => ?_)
      refine S.skip hf rfl rfl rfl (fun a hf => ?_)
      refine S.val hf hs (v := .bool false) rfl rfl rfl (V.pure rfl) (fun a hf => ?_)
      refine S.val hf hs (v := .bool false) rfl rfl rfl (V.pure rfl) (fun a hf => ?_)
      refine S.skip hf rfl rfl rfl (fun a hf => ?_)
      refine S.skip hf rfl rfl rfl (fun a hf => ?_)
      refine S.skip hf rfl rfl rfl (fun a hf => ?_)
      refine S.val hf hs (v := .bool false) rfl rfl rfl (V.pure rfl) (fun a hf => ?_)
      refine S.val hf hs (v := .bool false) rfl rfl rfl (V.pure rfl) (fun a hf => ?_)
      refine S.skip hf rfl rfl rfl (fun a hf => ?_)
      refine S.val hf hs (v := .bool false) rfl rfl rfl (V.pure rfl) (fun a hf => ?_)
      refine S.val hf hs (v := .bool false) rfl rfl rfl (V.pure rfl) (fun a hf => ?_)
      refine R.nil ?_
      refine X.then_ ?_
      refine wp_ret ?_
      exact L.ret hf (run_results1 Tryz.results6 (ResIs.tmp hf rfl)) ⟨false, rfl, h, hs.nil⟩
  · replace h := h.2 hc
    refine S.skip hf rfl rfl rfl (fun a hf => ?_)
    refine S.skip hf rfl rfl rfl (fun a hf => ?_)
    refine S.skip hf rfl rfl rfl (fun a hf => ?_)
    refine S.val hf hs (v := .bool false) rfl rfl rfl (V.pure rfl) (fun a hf => ?_)
    refine S.val hf hs (v := .bool false) rfl rfl rfl (V.pure rfl) (fun a hf => ?_)
    refine S.skip hf rfl rfl rfl (fun a hf => ?_)
    refine S.skip hf rfl rfl rfl (fun a hf => ?_)
    refine S.skip hf rfl rfl rfl (fun a hf => ?_)
    refine S.val hf hs (v := .bool false) rfl rfl rfl (V.pure rfl) (fun a hf => ?_)
    refine S.val hf hs (v := .bool false) rfl rfl rfl (V.pure rfl) (fun a hf => ?_)
    refine S.skip hf rfl rfl rfl (fun a hf => ?_)
    refine S.skip hf rfl rfl rfl (fun a hf => ?_)
    refine S.skip hf rfl rfl rfl (fun a hf => ?_)
    refine S.val hf hs (v := .bool false) rfl rfl rfl (V.pure rfl) (fun a hf => ?_)
    refine S.val hf hs (v := .bool false) rfl rfl rfl (V.pure rfl) (fun a hf => ?_)
    refine S.skip hf rfl rfl rfl (fun a hf => ?_)
    refine S.val hf hs (v := .bool false) rfl rfl rfl (V.pure rfl) (fun a hf => ?_)
    refine S.val hf hs (v := .bool false) rfl rfl rfl (V.pure rfl) (fun a hf => ?_)
    refine R.nil ?_
    refine X.then_ ?_
    refine wp_ret ?_
    exact L.ret hf (run_results1 Tryz.results6 (ResIs.tmp hf rfl)) ⟨false, rfl, h, hs.nil⟩


end Go.Proofs.YtdnilnmdbgcmoaaGreatDoor

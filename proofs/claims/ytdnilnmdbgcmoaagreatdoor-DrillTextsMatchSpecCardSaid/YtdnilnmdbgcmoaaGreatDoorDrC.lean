/- Reading bits and jobs: the walks. -/
import Derived.Test.YtdnilnmdbgcmoaaGreatDoorDrA
import Derived.Test.YtdnilnmdbgcmoaaGreatDoorNear
namespace Go.Proofs.YtdnilnmdbgcmoaaGreatDoor
open Go Go.RowKit Go.Proofs Go.Shelf Go.Lib
set_option linter.unusedVariables false

set_option linter.unusedVariables false
def M_stringslite_HasPrefix (s_ : Str) (prefix_ : Str) (Q : Bool → Prop) : Prop :=
  cnd (decide ((s_.length : Int) ≥ (prefix_.length : Int))) (must (0 ≤ (0 : Int) ∧ (0 : Int) ≤ (prefix_.length : Int) ∧ (prefix_.length : Int) ≤ (s_.length : Int)) (Q ((seg s_ (0 : Int) (prefix_.length : Int)) == prefix_))) (Q false)
set_option maxHeartbeats 1000000 in
theorem R_stringslite_HasPrefix (s_ : Str) (prefix_ : Str) (w0 : World)  (Q : Bool → Prop) (h : M_stringslite_HasPrefix s_ prefix_ Q) :
    Ret Tryz.prog 235 #[.string (ba s_), .string (ba prefix_)] w0 fun v w' => ∃ (r0 : Bool), v = .bool r0 ∧ Q r0 ∧ Sat w0 none_ [] w' := by
  refine fn_enter Tryz.func235 rfl Tryz.ntmps235 rfl (fs := [(0, .string (ba s_)), (1, .string (ba prefix_))]) rfl (fun a hf => ?_)
  have hs := Sat.start w0 none_
  unfold M_stringslite_HasPrefix at h
  refine wp_seq ?_
  refine R.list ?_
  refine S.val hf hs (v := .bool false) rfl rfl rfl (V.pure rfl) (fun a hf => ?_)
  refine R.nil ?_
  refine X.then_ ?_
  refine wp_seq ?_
  refine R.list ?_
  refine S.val hf hs (v := .string (ba s_)) rfl rfl rfl (V.pure rfl) (fun a hf => ?_)
  refine S.val hf hs (v := .int .i64 (s_.length : Int)) rfl rfl rfl (V.lenStr rfl rfl Tryz.runUnderlying9) (fun a hf => ?_)
  refine S.val hf hs (v := .string (ba prefix_)) rfl rfl rfl (V.pure rfl) (fun a hf => ?_)
  refine S.val hf hs (v := .int .i64 (prefix_.length : Int)) rfl rfl rfl (V.lenStr rfl rfl Tryz.runUnderlying9) (fun a hf => ?_)
  refine S.val hf hs (v := .bool (decide ((s_.length : Int) ≥ (prefix_.length : Int)))) rfl rfl rfl (V.pure rfl) (fun a hf => ?_)
  refine S.split hf hs (b := decide ((s_.length : Int) ≥ (prefix_.length : Int))) rfl rfl rfl (V.pure rfl) (fun hc a hf => ?_) (fun hc a hf => ?_)
  · replace h := h.1 hc
    refine S.val hf hs (v := .string (ba s_)) rfl rfl rfl (V.pure rfl) (fun a hf => ?_)
    refine S.val hf hs (v := .string (ba prefix_)) rfl rfl rfl (V.pure rfl) (fun a hf => ?_)
    refine S.val hf hs (v := .int .i64 (prefix_.length : Int)) rfl rfl rfl (V.lenStr rfl rfl Tryz.runUnderlying9) (fun a hf => ?_)
    obtain ⟨hp1, h⟩ := h
    refine S.val hf hs (v := .string (ba (seg s_ (0 : Int) (prefix_.length : Int)))) rfl rfl rfl (V.sliceStr rfl rfl rfl rfl Tryz.runUnderlying9 rfl rfl hp1) (fun a hf => ?_)
    refine S.val hf hs (v := .string (ba prefix_)) rfl rfl rfl (V.pure rfl) (fun a hf => ?_)
    refine S.val hf hs (v := .bool ((seg s_ (0 : Int) (prefix_.length : Int)) == prefix_)) rfl rfl rfl (V.strCmp ((seg s_ (0 : Int) (prefix_.length : Int)) == prefix_) rfl rfl rfl rfl) (fun a hf => ?_)
    refine S.val hf hs (v := .bool ((seg s_ (0 : Int) (prefix_.length : Int)) == prefix_)) rfl rfl rfl (V.pure rfl) (fun a hf => ?_)
    refine S.val hf hs (v := .bool ((seg s_ (0 : Int) (prefix_.length : Int)) == prefix_)) rfl rfl rfl (V.pure rfl) (fun a hf => ?_)
    refine R.nil ?_
    refine X.then_ ?_
    refine wp_ret ?_
    exact L.ret hf (run_results1 Tryz.results235 (ResIs.tmp hf rfl)) ⟨((seg s_ (0 : Int) (prefix_.length : Int)) == prefix_), rfl, h, hs.nil⟩
  · replace h := h.2 hc
    refine S.skip hf rfl rfl rfl (fun a hf => ?_)
    refine S.skip hf rfl rfl rfl (fun a hf => ?_)
    refine S.skip hf rfl rfl rfl (fun a hf => ?_)
    refine S.skip hf rfl rfl rfl (fun a hf => ?_)
    refine S.skip hf rfl rfl rfl (fun a hf => ?_)
    refine S.skip hf rfl rfl rfl (fun a hf => ?_)
    refine S.val hf hs (v := .bool false) rfl rfl rfl (V.pure rfl) (fun a hf => ?_)
    refine S.val hf hs (v := .bool false) rfl rfl rfl (V.pure rfl) (fun a hf => ?_)
    refine R.nil ?_
    refine X.then_ ?_
    refine wp_ret ?_
    exact L.ret hf (run_results1 Tryz.results235 (ResIs.tmp hf rfl)) ⟨false, rfl, h, hs.nil⟩

set_option linter.unusedVariables false
def M_stringslite_TrimPrefix (s_ : Str) (prefix_ : Str) (Q : Str → Prop) : Prop :=
  M_stringslite_HasPrefix s_ prefix_ fun y1 => cnd y1 (must (0 ≤ (prefix_.length : Int) ∧ (prefix_.length : Int) ≤ (s_.length : Int) ∧ (s_.length : Int) ≤ (s_.length : Int)) (Q (seg s_ (prefix_.length : Int) (s_.length : Int)))) (Q s_)
set_option maxHeartbeats 1000000 in
theorem R_stringslite_TrimPrefix (s_ : Str) (prefix_ : Str) (w0 : World)  (Q : Str → Prop) (h : M_stringslite_TrimPrefix s_ prefix_ Q) :
    Ret Tryz.prog 205 #[.string (ba s_), .string (ba prefix_)] w0 fun v w' => ∃ (r0 : Str), v = .string (ba r0) ∧ Q r0 ∧ Sat w0 none_ [] w' := by
  refine fn_enter Tryz.func205 rfl Tryz.ntmps205 rfl (fs := [(0, .string (ba s_)), (1, .string (ba prefix_))]) rfl (fun a hf => ?_)
  have hs := Sat.start w0 none_
  unfold M_stringslite_TrimPrefix at h
  refine wp_seq ?_
  refine R.list ?_
  refine S.val hf hs (v := .string (ba [])) rfl rfl rfl (V.pure rfl) (fun a hf => ?_)
  refine R.nil ?_
  refine X.then_ ?_
  refine wp_seq ?_
  refine wp_seq ?_
  refine R.list ?_
  refine S.val hf hs (v := .string (ba s_)) rfl rfl rfl (V.pure rfl) (fun a hf => ?_)
  refine S.val hf hs (v := .string (ba prefix_)) rfl rfl rfl (V.pure rfl) (fun a hf => ?_)
  refine S.call hf rfl rfl rfl (call_fn (vs := [.string (ba s_), .string (ba prefix_)]) rfl rfl rfl Tryz.call235) (R_stringslite_HasPrefix s_ prefix_ _  _ h) (fun v a w' hf hr => ?_)
  obtain ⟨y1, rfl, h2, hs2⟩ := hr
  replace h := h2; replace hs := hs.call hs2; clear h2 hs2
  refine R.nil ?_
  refine X.then_ ?_
  refine C.cond hf (b := y1) rfl (fun hc => ?_) (fun hc => ?_)
  · replace h := h.1 hc
    refine wp_seq ?_
    refine R.list ?_
    refine S.val hf hs (v := .string (ba s_)) rfl rfl rfl (V.pure rfl) (fun a hf => ?_)
    refine S.val hf hs (v := .string (ba prefix_)) rfl rfl rfl (V.pure rfl) (fun a hf => ?_)
    refine S.val hf hs (v := .int .i64 (prefix_.length : Int)) rfl rfl rfl (V.lenStr rfl rfl Tryz.runUnderlying9) (fun a hf => ?_)
    obtain ⟨hp1, h⟩ := h
    refine S.val hf hs (v := .string (ba (seg s_ (prefix_.length : Int) (s_.length : Int)))) rfl rfl rfl (V.sliceStr rfl rfl rfl rfl Tryz.runUnderlying9 rfl rfl hp1) (fun a hf => ?_)
    refine S.val hf hs (v := .string (ba (seg s_ (prefix_.length : Int) (s_.length : Int)))) rfl rfl rfl (V.pure rfl) (fun a hf => ?_)
    refine R.nil ?_
    refine X.then_ ?_
    refine wp_ret ?_
    refine X.then_ret ?_
    exact L.ret hf (run_results1 Tryz.results205 (ResIs.tmp hf rfl)) ⟨(seg s_ (prefix_.length : Int) (s_.length : Int)), rfl, h, hs.nil⟩
  · replace h := h.2 hc
    refine wp_skip ?_
    refine X.then_ ?_
    refine wp_seq ?_
    refine R.list ?_
    refine S.val hf hs (v := .string (ba s_)) rfl rfl rfl (V.pure rfl) (fun a hf => ?_)
    refine S.val hf hs (v := .string (ba s_)) rfl rfl rfl (V.pure rfl) (fun a hf => ?_)
    refine R.nil ?_
    refine X.then_ ?_
    refine wp_ret ?_
    exact L.ret hf (run_results1 Tryz.results205 (ResIs.tmp hf rfl)) ⟨s_, rfl, h, hs.nil⟩

set_option linter.unusedVariables false
def M_stringslite_CutPrefix (s_ : Str) (prefix_ : Str) (Q : Str → Bool → Prop) : Prop :=
  M_stringslite_HasPrefix s_ prefix_ fun y1 => cnd (!y1) (Q s_ false) (must (0 ≤ (prefix_.length : Int) ∧ (prefix_.length : Int) ≤ (s_.length : Int) ∧ (s_.length : Int) ≤ (s_.length : Int)) (Q (seg s_ (prefix_.length : Int) (s_.length : Int)) true))
set_option maxHeartbeats 1000000 in
theorem R_stringslite_CutPrefix (s_ : Str) (prefix_ : Str) (w0 : World)  (Q : Str → Bool → Prop) (h : M_stringslite_CutPrefix s_ prefix_ Q) :
    Ret Tryz.prog 206 #[.string (ba s_), .string (ba prefix_)] w0 fun v w' => ∃ (r0 : Str) (r1 : Bool), v = .tuple #[.string (ba r0), .bool r1] ∧ Q r0 r1 ∧ Sat w0 none_ [] w' := by
  refine fn_enter Tryz.func206 rfl Tryz.ntmps206 rfl (fs := [(0, .string (ba s_)), (1, .string (ba prefix_))]) rfl (fun a hf => ?_)
  have hs := Sat.start w0 none_
  unfold M_stringslite_CutPrefix at h
  refine wp_seq ?_
  refine R.list ?_
  refine S.val hf hs (v := .string (ba [])) rfl rfl rfl (V.pure rfl) (fun a hf => ?_)
  refine S.val hf hs (v := .bool false) rfl rfl rfl (V.pure rfl) (fun a hf => ?_)
  refine R.nil ?_
  refine X.then_ ?_
  refine wp_seq ?_
  refine wp_seq ?_
  refine R.list ?_
  refine S.val hf hs (v := .string (ba s_)) rfl rfl rfl (V.pure rfl) (fun a hf => ?_)
  refine S.val hf hs (v := .string (ba prefix_)) rfl rfl rfl (V.pure rfl) (fun a hf => ?_)
  refine S.call hf rfl rfl rfl (call_fn (vs := [.string (ba s_), .string (ba prefix_)]) rfl rfl rfl Tryz.call235) (R_stringslite_HasPrefix s_ prefix_ _  _ h) (fun v a w' hf hr => ?_)
  obtain ⟨y1, rfl, h2, hs2⟩ := hr
  replace h := h2; replace hs := hs.call hs2; clear h2 hs2
  refine S.val hf hs (v := .bool (!y1)) rfl rfl rfl (V.pure rfl) (fun a hf => ?_)
  refine R.nil ?_
  refine X.then_ ?_
  refine C.cond hf (b := !y1) rfl (fun hc => ?_) (fun hc => ?_)
  · replace h := h.1 hc
    refine wp_seq ?_
    refine R.list ?_
    refine S.val hf hs (v := .string (ba s_)) rfl rfl rfl (V.pure rfl) (fun a hf => ?_)
    refine S.val hf hs (v := .string (ba s_)) rfl rfl rfl (V.pure rfl) (fun a hf => ?_)
    refine S.val hf hs (v := .bool false) rfl rfl rfl (V.pure rfl) (fun a hf => ?_)
    refine R.nil ?_
    refine X.then_ ?_
    refine wp_ret ?_
    refine X.then_ret ?_
    exact L.ret hf (run_results2 Tryz.results206 (ResIs.tmp hf rfl) (ResIs.tmp hf rfl)) ⟨s_, false, rfl, h, hs.nil⟩
  · replace h := h.2 hc
    refine wp_skip ?_
    refine X.then_ ?_
    refine wp_seq ?_
    refine R.list ?_
    refine S.val hf hs (v := .string (ba s_)) rfl rfl rfl (V.pure rfl) (fun a hf => ?_)
    refine S.val hf hs (v := .string (ba prefix_)) rfl rfl rfl (V.pure rfl) (fun a hf => ?_)
    refine S.val hf hs (v := .int .i64 (prefix_.length : Int)) rfl rfl rfl (V.lenStr rfl rfl Tryz.runUnderlying9) (fun a hf => ?_)
    obtain ⟨hp1, h⟩ := h
    refine S.val hf hs (v := .string (ba (seg s_ (prefix_.length : Int) (s_.length : Int)))) rfl rfl rfl (V.sliceStr rfl rfl rfl rfl Tryz.runUnderlying9 rfl rfl hp1) (fun a hf => ?_)
    refine S.val hf hs (v := .string (ba (seg s_ (prefix_.length : Int) (s_.length : Int)))) rfl rfl rfl (V.pure rfl) (fun a hf => ?_)
    refine S.val hf hs (v := .bool true) rfl rfl rfl (V.pure rfl) (fun a hf => ?_)
    refine R.nil ?_
    refine X.then_ ?_
    refine wp_ret ?_
    exact L.ret hf (run_results2 Tryz.results206 (ResIs.tmp hf rfl) (ResIs.tmp hf rfl)) ⟨(seg s_ (prefix_.length : Int) (s_.length : Int)), true, rfl, h, hs.nil⟩

set_option linter.unusedVariables false
def M_strings_TrimPrefix (s_ : Str) (prefix_ : Str) (Q : Str → Prop) : Prop :=
  M_stringslite_TrimPrefix s_ prefix_ fun y1 => Q y1
set_option maxHeartbeats 1000000 in
theorem R_strings_TrimPrefix (s_ : Str) (prefix_ : Str) (w0 : World)  (Q : Str → Prop) (h : M_strings_TrimPrefix s_ prefix_ Q) :
    Ret Tryz.prog 156 #[.string (ba s_), .string (ba prefix_)] w0 fun v w' => ∃ (r0 : Str), v = .string (ba r0) ∧ Q r0 ∧ Sat w0 none_ [] w' := by
  refine fn_enter Tryz.func156 rfl Tryz.ntmps156 rfl (fs := [(0, .string (ba s_)), (1, .string (ba prefix_))]) rfl (fun a hf => ?_)
  have hs := Sat.start w0 none_
  unfold M_strings_TrimPrefix at h
  refine wp_seq ?_
  refine R.list ?_
  refine S.val hf hs (v := .string (ba [])) rfl rfl rfl (V.pure rfl) (fun a hf => ?_)
  refine R.nil ?_
  refine X.then_ ?_
  refine wp_seq ?_
  refine R.list ?_
  refine S.val hf hs (v := .string (ba s_)) rfl rfl rfl (V.pure rfl) (fun a hf => ?_)
  refine S.val hf hs (v := .string (ba prefix_)) rfl rfl rfl (V.pure rfl) (fun a hf => ?_)
  refine S.call hf rfl rfl rfl (call_fn (vs := [.string (ba s_), .string (ba prefix_)]) rfl rfl rfl Tryz.call205) (R_stringslite_TrimPrefix s_ prefix_ _  _ h) (fun v a w' hf hr => ?_)
  obtain ⟨y1, rfl, h2, hs2⟩ := hr
  replace h := h2; replace hs := hs.call hs2; clear h2 hs2
  refine S.val hf hs (v := .string (ba y1)) rfl rfl rfl (V.pure rfl) (fun a hf => ?_)
  refine R.nil ?_
  refine X.then_ ?_
  refine wp_ret ?_
  exact L.ret hf (run_results1 Tryz.results156 (ResIs.tmp hf rfl)) ⟨y1, rfl, h, hs.nil⟩

set_option linter.unusedVariables false
def M_strings_CutPrefix (s_ : Str) (prefix_ : Str) (Q : Str → Bool → Prop) : Prop :=
  M_stringslite_CutPrefix s_ prefix_ fun y1 y2 => Q y1 y2
set_option maxHeartbeats 1000000 in
theorem R_strings_CutPrefix (s_ : Str) (prefix_ : Str) (w0 : World)  (Q : Str → Bool → Prop) (h : M_strings_CutPrefix s_ prefix_ Q) :
    Ret Tryz.prog 161 #[.string (ba s_), .string (ba prefix_)] w0 fun v w' => ∃ (r0 : Str) (r1 : Bool), v = .tuple #[.string (ba r0), .bool r1] ∧ Q r0 r1 ∧ Sat w0 none_ [] w' := by
  refine fn_enter Tryz.func161 rfl Tryz.ntmps161 rfl (fs := [(0, .string (ba s_)), (1, .string (ba prefix_))]) rfl (fun a hf => ?_)
  have hs := Sat.start w0 none_
  unfold M_strings_CutPrefix at h
  refine wp_seq ?_
  refine R.list ?_
  refine S.val hf hs (v := .string (ba [])) rfl rfl rfl (V.pure rfl) (fun a hf => ?_)
  refine S.val hf hs (v := .bool false) rfl rfl rfl (V.pure rfl) (fun a hf => ?_)
  refine R.nil ?_
  refine X.then_ ?_
  refine wp_seq ?_
  refine R.list ?_
  refine S.val hf hs (v := .string (ba s_)) rfl rfl rfl (V.pure rfl) (fun a hf => ?_)
  refine S.val hf hs (v := .string (ba prefix_)) rfl rfl rfl (V.pure rfl) (fun a hf => ?_)
  refine S.call hf rfl rfl rfl (call_fn (vs := [.string (ba s_), .string (ba prefix_)]) rfl rfl rfl Tryz.call206) (R_stringslite_CutPrefix s_ prefix_ _  _ h) (fun v a w' hf hr => ?_)
  obtain ⟨y1, y2, rfl, h2, hs2⟩ := hr
  replace h := h2; replace hs := hs.call hs2; clear h2 hs2
  refine S.val hf hs (v := .string (ba y1)) rfl rfl rfl (V.pure rfl) (fun a hf => ?_)
  refine S.val hf hs (v := .bool y2) rfl rfl rfl (V.pure rfl) (fun a hf => ?_)
  refine S.val hf hs (v := .string (ba y1)) rfl rfl rfl (V.pure rfl) (fun a hf => ?_)
  refine S.val hf hs (v := .bool y2) rfl rfl rfl (V.pure rfl) (fun a hf => ?_)
  refine R.nil ?_
  refine X.then_ ?_
  refine wp_ret ?_
  exact L.ret hf (run_results2 Tryz.results161 (ResIs.tmp hf rfl) (ResIs.tmp hf rfl)) ⟨y1, y2, rfl, h, hs.nil⟩

/-- the closure of isRow: a rune below 33 or above 126 -/
theorem pred_drill_ContainsRow (w : World) : PredAtRunes Tryz.prog 100 #[] (fun r => decide (r < 33) || decide (126 < r)) w := fun W r _ _ => by
  unfold FnGives
  by_cases h1 : r < 33 <;> by_cases h2 : 126 < r
  all_goals
    have z1 : (r : Int) < 33 ↔ r < 33 := by omega
    have z2 : (126 : Int) < r ↔ 126 < r := by omega
    go_enter Tryz.func100, Tryz.ntmps100
    go_wp2
    all_goals first | (exfalso; omega) | (go_ret; exact ⟨by simp [h1, h2], 0, rfl⟩)
/-- strings.ContainsFunc at isRow's closure: the kit's shelf -/
def M_drill_ContainsRow (s : Str) (Q : Bool → Prop) : Prop := Q (decide (0 ≤ Lib.idxFunc (fun r => decide (r < 33) || decide (126 < r)) true (ba s)))
theorem R_drill_ContainsRow (s : Str) (w0 : World) (Q : Bool → Prop) (h : M_drill_ContainsRow s Q) :
    Ret Tryz.prog 99 #[.string (ba s), .func (.func 100) #[] #[]] w0 fun v w' => ∃ (r0 : Bool), v = .bool r0 ∧ Q r0 ∧ Sat w0 none_ [] w' := by
  have key := Any.strings_ContainsFunc_grows (P := Tryz.prog) Tryz.lays17 100 #[] (enters_of Tryz.func100 (by kernel_rfl) rfl) _ (ba s) w0 (pred_drill_ContainsRow w0).grows
  exact Calls.mono key fun e w' ⟨he, hb⟩ => ⟨_, he, _, rfl, h, ⟨Keeps.of_below hb none_ (fun e => absurd e (by decide)), trivial⟩⟩

set_option linter.unusedVariables false
def M_drill_notRow (x_ : Str) (Q : Bool → Prop) : Prop :=
  cnd (x_ == []) (Q true) (M_drill_ContainsRow x_ fun y1 => Q y1)
set_option maxHeartbeats 1000000 in
theorem R_drill_notRow (x_ : Str) (w0 : World)  (Q : Bool → Prop) (h : M_drill_notRow x_ Q) :
    Ret Tryz.prog 98 #[.string (ba x_)] w0 fun v w' => ∃ (r0 : Bool), v = .bool r0 ∧ Q r0 ∧ Sat w0 none_ [] w' := by
  refine fn_enter Tryz.func98 rfl Tryz.ntmps98 rfl (fs := [(0, .string (ba x_))]) rfl (fun a hf => ?_)
  have hs := Sat.start w0 none_
  unfold M_drill_notRow at h
  refine wp_seq ?_
  refine R.list ?_
  refine S.val hf hs (v := .bool false) rfl rfl rfl (V.pure rfl) (fun a hf => ?_)
  refine R.nil ?_
  refine X.then_ ?_
  refine wp_seq ?_
  refine R.list ?_
  refine S.val hf hs (v := .string (ba x_)) rfl rfl rfl (V.pure rfl) (fun a hf => ?_)
  refine S.val hf hs (v := .bool (x_ == [])) rfl rfl rfl (V.strCmp (x_ == []) rfl rfl rfl rfl) (fun a hf => ?_)
  refine S.split hf hs (b := x_ == []) rfl rfl rfl (V.pure rfl) (fun hc a hf => ?_) (fun hc a hf => ?_)
  · replace h := h.1 hc
    refine S.skip hf rfl rfl rfl (fun a hf => ?_)
    refine S.skip hf rfl rfl rfl (fun a hf => ?_)
    refine S.val hf hs (v := .bool true) rfl rfl rfl (V.pure rfl) (fun a hf => ?_)
    refine S.val hf hs (v := .bool true) rfl rfl rfl (V.pure rfl) (fun a hf => ?_)
    refine R.nil ?_
    refine X.then_ ?_
    refine wp_ret ?_
    exact L.ret hf (run_results1 Tryz.results98 (ResIs.tmp hf rfl)) ⟨true, rfl, h, hs.nil⟩
  · replace h := h.2 hc
    refine S.val hf hs (v := .string (ba x_)) rfl rfl rfl (V.pure rfl) (fun a hf => ?_)
    refine S.call hf rfl rfl rfl (call_fn (vs := [.string (ba x_), .func (.func 100) #[] #[]]) rfl rfl rfl Tryz.call99) (R_drill_ContainsRow x_ _  _ h) (fun v a w' hf hr => ?_)
    obtain ⟨y1, rfl, h2, hs2⟩ := hr
    replace h := h2; replace hs := hs.call hs2; clear h2 hs2
    refine S.val hf hs (v := .bool y1) rfl rfl rfl (V.pure rfl) (fun a hf => ?_)
    refine S.val hf hs (v := .bool y1) rfl rfl rfl (V.pure rfl) (fun a hf => ?_)
    refine R.nil ?_
    refine X.then_ ?_
    refine wp_ret ?_
    exact L.ret hf (run_results1 Tryz.results98 (ResIs.tmp hf rfl)) ⟨y1, rfl, h, hs.nil⟩

set_option linter.unusedVariables false
def M_indexfunc_drill_L1 (Q : Int → Prop) (k1 : Nat) (xk1 : Str)  (next1 : Prop) : Prop :=
  M_drill_notRow xk1 fun y1 => cnd y1 (Q (k1 : Int)) (next1)
def M_indexfunc_drill (s_ : (List Str)) (Q : Int → Prop) : Prop :=
  forIn' (fun k x (s : Unit) next => M_indexfunc_drill_L1 Q k x (next ())) (fun (s : Unit) => Q (-1)) s_ 0 ()
set_option maxHeartbeats 1000000 in
theorem R_indexfunc_drill (s_ : (List Str)) (w0 : World) (s_A : Option Addr) (s_C : Nat) (hv_s_ : View w0 (old w0 none_) s_A s_C s_) (Q : Int → Prop) (h : M_indexfunc_drill s_ Q) :
    Ret Tryz.prog 140 #[.slice s_A s_.length s_C, .func (.func 98) #[] #[]] w0 fun v w' => ∃ (r0 : Int), v = .int .i64 r0 ∧ Q r0 ∧ Sat w0 none_ [] w' := by
  refine fn_enter Tryz.func140 rfl Tryz.ntmps140 rfl (fs := [(0, .slice s_A s_.length s_C), (1, .func (.func 98) #[] #[])]) rfl (fun a hf => ?_)
  have hs := Sat.start w0 none_
  unfold M_indexfunc_drill at h
  refine wp_seq ?_
  refine R.list ?_
  refine S.val hf hs (v := .int .i64 0) rfl rfl rfl (V.pure rfl) (fun a hf => ?_)
  refine R.nil ?_
  refine X.then_ ?_
  refine wp_seq ?_
  refine wp_seq ?_
  refine R.list ?_
  refine S.val hf hs (v := .slice s_A s_.length s_C) rfl rfl rfl (V.pure rfl) (fun a hf => ?_)
  refine S.val hf hs (v := .int .i64 (s_.length : Int)) rfl rfl rfl (V.len rfl rfl Tryz.runUnderlying74) (fun a hf => ?_)
  refine S.val hf hs (v := .int .i64 0) rfl rfl rfl (V.pure rfl) (fun a hf => ?_)
  refine R.nil ?_
  refine X.then_ ?_
  refine wp_block ?_
  have hlenk1 := hv_s_.len64
  refine C.range (fun (ll : List Str) a w => ∃ (k1 : Nat) , s_.drop k1 = ll ∧ k1 + ll.length = s_.length ∧ forIn' (fun k x (s : Unit) next => M_indexfunc_drill_L1 Q k x (next ())) (fun (s : Unit) => Q (-1)) ll k1 () ∧ FrOk 19 [(8, .int .i64 (k1 : Int)), (0, .slice s_A s_.length s_C), (1, .func (.func 98) #[] #[]), (7, .int .i64 (s_.length : Int))] a ∧ Sat w0 none_ [] w) s_ ⟨0, rfl, Nat.zero_add _, h, ((((hf.nil.cons (hf.get 7 _ rfl)).cons (hf.get 1 _ rfl)).cons (hf.get 0 _ rfl)).cons (hf.get 8 _ rfl)), hs⟩ ?_
  clear h hf hs
  rintro llk1 a w ⟨k1, hlk1, hkk1, h, hf, hs⟩
  cases llk1 with
  | nil =>
    have hc := range_done hkk1
    replace h : Q (-1) := h
    refine wp_seq ?_
    refine R.list ?_
    refine S.val hf hs (v := .bool false) rfl rfl rfl (V.cmp false rfl rfl rfl rfl hc) (fun a hf => ?_)
    refine R.nil ?_
    refine X.then_ ?_
    refine wp_seq ?_
    refine C.no hf rfl ?_
    refine wp_exit ?_
    refine X.then_exit ?_
    refine X.then_exit ?_
    refine X.blk_exit ?_
    refine X.then_ ?_
    refine wp_seq ?_
    refine R.list ?_
    refine S.val hf hs (v := .int .i64 (-1)) rfl rfl rfl (V.pure rfl) (fun a hf => ?_)
    refine R.nil ?_
    refine X.then_ ?_
    refine wp_ret ?_
    exact L.ret hf (run_results1 Tryz.results140 (ResIs.tmp hf rfl)) ⟨(-1), rfl, h, hs.nil⟩
  | cons xk1 llk1 =>
    have hltk1 := range_lt hkk1; have hc := range_go hkk1; have hxk1 := range_get hlk1
    obtain ⟨next1, hnext1⟩ : ∃ X : Prop, X = (forIn' (fun k x (s : Unit) next => M_indexfunc_drill_L1 Q k x (next ())) (fun (s : Unit) => Q (-1)) llk1 (k1 + 1) ()) := ⟨_, rfl⟩
    replace h : M_indexfunc_drill_L1 Q k1 xk1  next1 := by rw [hnext1]; exact h
    unfold M_indexfunc_drill_L1 at h
    refine wp_seq ?_
    refine R.list ?_
    refine S.val hf hs (v := .bool true) rfl rfl rfl (V.cmp true rfl rfl rfl rfl hc) (fun a hf => ?_)
    refine R.nil ?_
    refine X.then_ ?_
    refine wp_seq ?_
    refine C.yes hf rfl ?_
    refine wp_skip ?_
    refine X.then_ ?_
    refine wp_seq ?_
    refine wp_block ?_
    refine wp_seq ?_
    refine R.list ?_
    refine S.val hf hs (v := .int .i64 (k1 : Int)) rfl rfl rfl (V.pure rfl) (fun a hf => ?_)
    refine S.val hf hs (v := .int .i64 (k1 : Int)) rfl rfl rfl (V.pure rfl) (fun a hf => ?_)
    refine R.nil ?_
    refine X.then_ ?_
    refine wp_seq ?_
    refine R.list ?_
    refine S.val hf hs (v := .func (.func 98) #[] #[]) rfl rfl rfl (V.pure rfl) (fun a hf => ?_)
    refine S.val hf hs (v := .slice s_A s_.length s_C) rfl rfl rfl (V.pure rfl) (fun a hf => ?_)
    refine S.val hf hs (v := .int .i64 (k1 : Int)) rfl rfl rfl (V.pure rfl) (fun a hf => ?_)
    refine S.val hf hs (v := elemPtr s_A (k1 * 1)) rfl rfl rfl (V.index rfl rfl rfl Tryz.runUnderlying74 Tryz.sizeOf9 (hv_s_.some_ (lt_of_get hxk1)) (Int.natCast_nonneg _) (lt_of_get hxk1) rfl) (fun a hf => ?_)
    refine S.val hf hs (v := .string (ba xk1)) rfl rfl rfl (V.loadEl (off := 0) (Ag.args _ _ _) (hv_s_.flat hxk1) rfl rfl rfl Tryz.isAgg9 Tryz.sizeOf9 rfl rfl) (fun a hf => ?_)
    refine S.call hf rfl rfl rfl (call_fn (vs := [.string (ba xk1)]) rfl rfl rfl Tryz.call98) (R_drill_notRow xk1 _  _ h) (fun v a w' hf hr => ?_)
    obtain ⟨y1, rfl, h2, hs2⟩ := hr
    replace h := h2; replace hs := hs.call hs2; clear h2 hs2
    refine R.nil ?_
    refine X.then_ ?_
    refine C.cond hf (b := y1) rfl (fun hc => ?_) (fun hc => ?_)
    · replace h := h.1 hc
      refine wp_seq ?_
      refine R.list ?_
      refine S.val hf hs (v := .int .i64 (k1 : Int)) rfl rfl rfl (V.pure rfl) (fun a hf => ?_)
      refine S.val hf hs (v := .int .i64 (k1 : Int)) rfl rfl rfl (V.pure rfl) (fun a hf => ?_)
      refine R.nil ?_
      refine X.then_ ?_
      refine wp_ret ?_
      refine X.blk_ret ?_
      refine X.then_ret ?_
      refine X.then_ret ?_
      refine X.blk_ret ?_
      refine X.then_ret ?_
      exact L.ret hf (run_results1 Tryz.results140 (ResIs.tmp hf rfl)) ⟨(k1 : Int), rfl, h, hs.nil⟩
    · replace h := h.2 hc
      refine wp_skip ?_
      refine X.blk ?_
      refine X.then_ ?_
      refine R.list ?_
      refine S.val hf hs (v := .int .i64 ((k1 + 1 : Nat) : Int)) rfl rfl rfl (V.incr rfl rfl rfl hltk1 hlenk1) (fun a hf => ?_)
      refine S.val hf hs (v := .int .i64 ((k1 + 1 : Nat) : Int)) rfl rfl rfl (V.pure rfl) (fun a hf => ?_)
      refine R.nil ?_
      refine X.then_ ?_
      exact ⟨xk1, llk1, rfl, k1 + 1, range_drop hlk1, range_len hkk1, (by rw [hnext1] at h; exact h), ((((hf.nil.cons (hf.get 7 _ rfl)).cons (hf.get 1 _ rfl)).cons (hf.get 0 _ rfl)).cons (hf.get 8 _ rfl)), hs⟩

set_option linter.unusedVariables false
def M_contains_drill (s_ : (List Str)) (Q : Bool → Prop) : Prop :=
  M_indexfunc_drill s_ fun y1 => Q (decide (y1 ≥ 0))
set_option maxHeartbeats 1000000 in
theorem R_contains_drill (s_ : (List Str)) (w0 : World) (s_A : Option Addr) (s_C : Nat) (hv_s_ : View w0 (old w0 none_) s_A s_C s_) (Q : Bool → Prop) (h : M_contains_drill s_ Q) :
    Ret Tryz.prog 80 #[.slice s_A s_.length s_C, .func (.func 98) #[] #[]] w0 fun v w' => ∃ (r0 : Bool), v = .bool r0 ∧ Q r0 ∧ Sat w0 none_ [] w' := by
  refine fn_enter Tryz.func80 rfl Tryz.ntmps80 rfl (fs := [(0, .slice s_A s_.length s_C), (1, .func (.func 98) #[] #[])]) rfl (fun a hf => ?_)
  have hs := Sat.start w0 none_
  unfold M_contains_drill at h
  refine wp_seq ?_
  refine R.list ?_
  refine S.val hf hs (v := .bool false) rfl rfl rfl (V.pure rfl) (fun a hf => ?_)
  refine R.nil ?_
  refine X.then_ ?_
  refine wp_seq ?_
  refine R.list ?_
  refine S.val hf hs (v := .slice s_A s_.length s_C) rfl rfl rfl (V.pure rfl) (fun a hf => ?_)
  refine S.val hf hs (v := .func (.func 98) #[] #[]) rfl rfl rfl (V.pure rfl) (fun a hf => ?_)
  refine S.call hf rfl rfl rfl (call_fn (vs := [.slice s_A s_.length s_C, .func (.func 98) #[] #[]]) rfl rfl rfl Tryz.call140) (R_indexfunc_drill s_ _ s_A s_C ((Ag.args _ _ _).view hv_s_ hs) _ h) (fun v a w' hf hr => ?_)
  obtain ⟨y1, rfl, h2, hs2⟩ := hr
  replace h := h2; replace hs := hs.call hs2; clear h2 hs2
  refine S.val hf hs (v := .bool (decide (y1 ≥ 0))) rfl rfl rfl (V.pure rfl) (fun a hf => ?_)
  refine S.val hf hs (v := .bool (decide (y1 ≥ 0))) rfl rfl rfl (V.pure rfl) (fun a hf => ?_)
  refine R.nil ?_
  refine X.then_ ?_
  refine wp_ret ?_
  exact L.ret hf (run_results1 Tryz.results80 (ResIs.tmp hf rfl)) ⟨(decide (y1 ≥ 0)), rfl, h, hs.nil⟩

set_option linter.unusedVariables false
def M_drill_numbers_k3 (Q : (List Int) → Bool → Prop) (xk1 : Str) (l2 : List Int) (next1 : List Int → Prop) (c1 : Bool) : Prop :=
  cnd c1 (Q ([] : List Int) false) (M_strconv_Atoi xk1 fun y1 y2 => must (room (l2 ++ [y1]).length 8) (next1 (l2 ++ [y1])))
def M_drill_numbers_k2 (Q : (List Int) → Bool → Prop) (xk1 : Str) (l2 : List Int) (next1 : List Int → Prop) (s1 : Str) : Prop :=
  cnd (decide ((s1.length : Int) < 1)) (M_drill_numbers_k3 Q xk1 l2 next1 true) (cnd (decide ((s1.length : Int) > 9)) (M_drill_numbers_k3 Q xk1 l2 next1 true) (M_strings_Trim s1 [48, 49, 50, 51, 52, 53, 54, 55, 56, 57] fun y3 => cnd (!(y3 == [])) (M_drill_numbers_k3 Q xk1 l2 next1 true) (idx s1 0 fun x1 => cnd ((x1.toNat : Int) == 48) (M_drill_numbers_k3 Q xk1 l2 next1 (!(xk1 == [48]))) (M_drill_numbers_k3 Q xk1 l2 next1 false))))
def M_drill_numbers_L1 (signed : Int) (Q : (List Int) → Bool → Prop) (k1 : Nat) (xk1 : Str) (l2 : List Int) (next1 : List Int → Prop) : Prop :=
  cnd (decide ((k1 : Int) < signed)) (M_strings_TrimPrefix xk1 [45] fun y4 => M_drill_numbers_k2 Q xk1 l2 next1 y4) (M_drill_numbers_k2 Q xk1 l2 next1 xk1)
def M_drill_numbers (l : (List Str)) (signed : Int) (Q : (List Int) → Bool → Prop) : Prop :=
  forIn' (fun k x (s : List Int) next => M_drill_numbers_L1 signed Q k x s (fun l2 => next l2)) (fun (s : List Int) => (fun (l2 : List Int) => Q l2 true) s) l 0 ([] : List Int)
set_option maxHeartbeats 1000000 in
theorem R_drill_numbers (l : (List Str)) (signed : Int) (w0 : World) (lA : Option Addr) (lC : Nat) (hv_l : View w0 (old w0 none_) lA lC l) (Q : (List Int) → Bool → Prop) (h : M_drill_numbers l signed Q) :
    Ret Tryz.prog 101 #[.slice lA l.length lC, .int .i64 signed] w0 fun v w' => ∃ (r0 : (List Int)) (r0A : Option Addr) (r0C : Nat) (r1 : Bool), v = .tuple #[.slice r0A r0.length r0C, .bool r1] ∧ Q r0 r1 ∧ Sat w0 none_ [hown 3 r0A r0C r0] w' := by
  refine fn_enter Tryz.func101 rfl Tryz.ntmps101 rfl (fs := [(0, .slice lA l.length lC), (1, .int .i64 signed)]) rfl (fun a hf => ?_)
  have hs := Sat.start w0 none_
  unfold M_drill_numbers at h
  refine wp_seq ?_
  refine R.list ?_
  refine S.val hf hs (v := .slice none 0 0) rfl rfl rfl (V.pure rfl) (fun a hf => ?_)
  refine S.val hf hs (v := .bool false) rfl rfl rfl (V.pure rfl) (fun a hf => ?_)
  refine R.nil ?_
  refine X.then_ ?_
  refine wp_seq ?_
  refine R.list ?_
  refine S.val hf hs (v := .slice none 0 0) rfl rfl rfl (V.pure rfl) (fun a hf => ?_)
  refine R.nil ?_
  refine X.then_ ?_
  refine wp_seq ?_
  refine wp_seq ?_
  refine R.list ?_
  refine S.val hf hs (v := .slice lA l.length lC) rfl rfl rfl (V.pure rfl) (fun a hf => ?_)
  refine S.val hf hs (v := .int .i64 (l.length : Int)) rfl rfl rfl (V.len rfl rfl Tryz.runUnderlying74) (fun a hf => ?_)
  refine S.val hf hs (v := .int .i64 0) rfl rfl rfl (V.pure rfl) (fun a hf => ?_)
  refine R.nil ?_
  refine X.then_ ?_
  refine wp_block ?_
  replace hs := hs.nilOwn (α := Int) 3
  have hlenk1 := hv_l.len64
  refine C.range (fun (ll : List Str) a w => ∃ (k1 : Nat) (l2 : List Int) (l2A : Option Addr) (l2C : Nat), l.drop k1 = ll ∧ k1 + ll.length = l.length ∧ forIn' (fun k x (s : List Int) next => M_drill_numbers_L1 signed Q k x s (fun l2 => next l2)) (fun (s : List Int) => (fun (l2 : List Int) => Q l2 true) s) ll k1 l2 ∧ FrOk 58 [(14, .int .i64 (k1 : Int)), (1, .int .i64 signed), (6, .slice l2A l2.length l2C), (12, .slice lA l.length lC), (13, .int .i64 (l.length : Int))] a ∧ Sat w0 none_ [hown 3 l2A l2C l2] w) l ⟨0, ([] : List Int), none, 0, rfl, Nat.zero_add _, h, (((((hf.nil.cons (hf.get 13 _ rfl)).cons (hf.get 12 _ rfl)).cons (hf.get 6 _ rfl)).cons (hf.get 1 _ rfl)).cons (hf.get 14 _ rfl)), hs⟩ ?_
  clear h hf hs
  rintro llk1 a w ⟨k1, l2, l2A, l2C, hlk1, hkk1, h, hf, hs⟩
  cases llk1 with
  | nil =>
    have hc := range_done hkk1
    replace h : (fun (l2 : List Int) => Q l2 true) l2 := h
    refine wp_seq ?_
    refine R.list ?_
    refine S.val hf hs (v := .bool false) rfl rfl rfl (V.cmp false rfl rfl rfl rfl hc) (fun a hf => ?_)
    refine R.nil ?_
    refine X.then_ ?_
    refine wp_seq ?_
    refine C.no hf rfl ?_
    refine wp_exit ?_
    refine X.then_exit ?_
    refine X.then_exit ?_
    refine X.blk_exit ?_
    refine X.then_ ?_
    refine wp_seq ?_
    refine R.list ?_
    refine S.val hf hs (v := .slice l2A l2.length l2C) rfl rfl rfl (V.pure rfl) (fun a hf => ?_)
    refine S.val hf hs (v := .slice l2A l2.length l2C) rfl rfl rfl (V.pure rfl) (fun a hf => ?_)
    refine S.val hf hs (v := .bool true) rfl rfl rfl (V.pure rfl) (fun a hf => ?_)
    refine R.nil ?_
    refine X.then_ ?_
    refine wp_ret ?_
    replace hs := hs.take 1
    exact L.ret hf (run_results2 Tryz.results101 (ResIs.tmp hf rfl) (ResIs.tmp hf rfl)) ⟨l2, l2A, l2C, true, rfl, h, hs⟩
  | cons xk1 llk1 =>
    have hltk1 := range_lt hkk1; have hc := range_go hkk1; have hxk1 := range_get hlk1
    obtain ⟨next1, hnext1⟩ : ∃ X : List Int → Prop, X = (fun l2 => forIn' (fun k x (s : List Int) next => M_drill_numbers_L1 signed Q k x s (fun l2 => next l2)) (fun (s : List Int) => (fun (l2 : List Int) => Q l2 true) s) llk1 (k1 + 1) l2) := ⟨_, rfl⟩
    replace h : M_drill_numbers_L1 signed Q k1 xk1 l2 next1 := by rw [hnext1]; exact h
    unfold M_drill_numbers_L1 at h
    refine wp_seq ?_
    refine R.list ?_
    refine S.val hf hs (v := .bool true) rfl rfl rfl (V.cmp true rfl rfl rfl rfl hc) (fun a hf => ?_)
    refine R.nil ?_
    refine X.then_ ?_
    refine wp_seq ?_
    refine C.yes hf rfl ?_
    refine wp_skip ?_
    refine X.then_ ?_
    refine wp_seq ?_
    refine wp_block ?_
    refine wp_seq ?_
    refine R.list ?_
    refine S.val hf hs (v := .int .i64 (k1 : Int)) rfl rfl rfl (V.pure rfl) (fun a hf => ?_)
    refine S.val hf hs (v := elemPtr lA (k1 * 1)) rfl rfl rfl (V.index rfl rfl rfl Tryz.runUnderlying74 Tryz.sizeOf9 (hv_l.some_ (lt_of_get hxk1)) (Int.natCast_nonneg _) (lt_of_get hxk1) rfl) (fun a hf => ?_)
    refine S.val hf hs (v := .string (ba xk1)) rfl rfl rfl (V.loadEl (off := 0) (Ag.args _ _ _) (hv_l.flat hxk1) rfl rfl rfl Tryz.isAgg9 Tryz.sizeOf9 rfl rfl) (fun a hf => ?_)
    refine S.val hf hs (v := .int .i64 (k1 : Int)) rfl rfl rfl (V.pure rfl) (fun a hf => ?_)
    refine S.val hf hs (v := .string (ba xk1)) rfl rfl rfl (V.pure rfl) (fun a hf => ?_)
    refine R.nil ?_
    refine X.then_ ?_
    refine wp_seq ?_
    refine R.list ?_
    refine S.val hf hs (v := .string (ba xk1)) rfl rfl rfl (V.pure rfl) (fun a hf => ?_)
    refine S.val hf hs (v := .string (ba xk1)) rfl rfl rfl (V.pure rfl) (fun a hf => ?_)
    refine R.nil ?_
    refine X.then_ ?_
    refine wp_seq ?_
    refine C.cut (J := fun a w => ∃ (s1 : Str), M_drill_numbers_k2 Q xk1 l2 next1 s1 ∧ FrOk 58 [(1, .int .i64 signed), (6, .slice l2A l2.length l2C), (8, .string (ba xk1)), (9, .string (ba s1)), (12, .slice lA l.length lC), (13, .int .i64 (l.length : Int)), (14, .int .i64 (k1 : Int))] a ∧ Sat w0 none_ [hown 3 l2A l2C l2] w) ?_ ?_
    · rintro a w ⟨s1, h, hf, hs⟩
      unfold M_drill_numbers_k2 at h
      refine wp_seq ?_
      refine wp_seq ?_
      refine C.cut (J := fun a w => ∃ (c1 : Bool), M_drill_numbers_k3 Q xk1 l2 next1 c1 ∧ FrOk 58 [(1, .int .i64 signed), (6, .slice l2A l2.length l2C), (8, .string (ba xk1)), (12, .slice lA l.length lC), (13, .int .i64 (l.length : Int)), (14, .int .i64 (k1 : Int)), (46, .bool c1)] a ∧ Sat w0 none_ [hown 3 l2A l2C l2] w) ?_ ?_
      · rintro a w ⟨c1, h, hf, hs⟩
        unfold M_drill_numbers_k3 at h
        refine C.cond hf (b := c1) rfl (fun hc => ?_) (fun hc => ?_)
        · replace h := h.1 hc
          refine wp_seq ?_
          refine R.list ?_
          refine S.val hf hs (v := .slice none 0 0) rfl rfl rfl (V.pure rfl) (fun a hf => ?_)
          refine S.val hf hs (v := .bool false) rfl rfl rfl (V.pure rfl) (fun a hf => ?_)
          refine R.nil ?_
          refine X.then_ ?_
          refine wp_ret ?_
          refine X.then_ret ?_
          refine X.blk_ret ?_
          refine X.then_ret ?_
          refine X.then_ret ?_
          refine X.blk_ret ?_
          refine X.then_ret ?_
          replace hs := hs.nilOwn (α := Int) 3
          replace hs := hs.take 1
          exact L.ret hf (run_results2 Tryz.results101 (ResIs.tmp hf rfl) (ResIs.tmp hf rfl)) ⟨([] : List Int), none, 0, false, rfl, h, hs⟩
        · replace h := h.2 hc
          refine wp_skip ?_
          refine X.then_ ?_
          refine wp_seq ?_
          refine R.list ?_
          refine S.val hf hs (v := .string (ba xk1)) rfl rfl rfl (V.pure rfl) (fun a hf => ?_)
          refine S.call hf rfl rfl rfl (call_fn (vs := [.string (ba xk1)]) rfl rfl rfl Tryz.call143) (R_strconv_Atoi xk1 _  _ h) (fun v a w' hf hr => ?_)
          obtain ⟨y1, y2, rfl, h2, hs2⟩ := hr
          replace h := h2; replace hs := hs.call hs2; clear h2 hs2
          refine S.val hf hs (v := .tuple #[.int .i64 y1, .nilIface]) rfl rfl rfl (V.pure rfl) (fun a hf => ?_)
          refine S.val hf hs (v := .int .i64 y1) rfl rfl rfl (V.pure rfl) (fun a hf => ?_)
          refine S.val hf hs (v := .nilIface) rfl rfl rfl (V.pure rfl) (fun a hf => ?_)
          refine S.val hf hs (v := .int .i64 y1) rfl rfl rfl (V.pure rfl) (fun a hf => ?_)
          refine S.val hf hs (v := .nilIface) rfl rfl rfl (V.pure rfl) (fun a hf => ?_)
          refine R.nil ?_
          refine X.then_ ?_
          refine R.list ?_
          refine S.val hf hs (v := .slice l2A l2.length l2C) rfl rfl rfl (V.pure rfl) (fun a hf => ?_)
          refine S.val hf hs (v := .int .i64 y1) rfl rfl rfl (V.pure rfl) (fun a hf => ?_)
          refine S.build1 hf hs rfl rfl rfl (α := Int) y1 rfl rfl rfl Tryz.runUnderlying118 Tryz.sizeOf3 Tryz.zeroValue3 rfl (by decide) (fun A1 a w hf hs => ?_)
          obtain ⟨hroom, h⟩ := h
          refine S.appendCells 1 hf hs rfl rfl rfl rfl rfl rfl rfl Tryz.underlying118 info3 rfl hroom ((hs.ownView 0 rfl).some_ (i := 0) (by simp)) (hs.ownView 0 rfl) (fun A2 C1 a w hf hs => ?_)
          replace hs := hs.drop
          refine S.val hf hs (v := .slice A2 (l2 ++ [y1]).length C1) rfl rfl rfl (V.pure rfl) (fun a hf => ?_)
          refine R.nil ?_
          refine X.blk ?_
          refine X.then_ ?_
          refine R.list ?_
          refine S.val hf hs (v := .int .i64 ((k1 + 1 : Nat) : Int)) rfl rfl rfl (V.incr rfl rfl rfl hltk1 hlenk1) (fun a hf => ?_)
          refine S.val hf hs (v := .int .i64 ((k1 + 1 : Nat) : Int)) rfl rfl rfl (V.pure rfl) (fun a hf => ?_)
          refine R.nil ?_
          refine X.then_ ?_
          exact ⟨xk1, llk1, rfl, k1 + 1, (l2 ++ [y1]), A2, C1, range_drop hlk1, range_len hkk1, (by rw [hnext1] at h; exact h), (((((hf.nil.cons (hf.get 13 _ rfl)).cons (hf.get 12 _ rfl)).cons (hf.get 6 _ rfl)).cons (hf.get 1 _ rfl)).cons (hf.get 14 _ rfl)), hs⟩
      · skip
        refine R.list ?_
        refine S.val hf hs (v := .string (ba s1)) rfl rfl rfl (V.pure rfl) (fun a hf => ?_)
        refine S.val hf hs (v := .int .i64 (s1.length : Int)) rfl rfl rfl (V.lenStr rfl rfl Tryz.runUnderlying9) (fun a hf => ?_)
        refine S.val hf hs (v := .bool (decide ((s1.length : Int) < 1))) rfl rfl rfl (V.pure rfl) (fun a hf => ?_)
        refine S.split hf hs (b := decide ((s1.length : Int) < 1)) rfl rfl rfl (V.pure rfl) (fun hc a hf => ?_) (fun hc a hf => ?_)
        · replace h := h.1 hc
          refine S.skip hf rfl rfl rfl (fun a hf => ?_)
          refine S.skip hf rfl rfl rfl (fun a hf => ?_)
          refine S.skip hf rfl rfl rfl (fun a hf => ?_)
          refine S.val hf hs (v := .bool true) rfl rfl rfl (V.pure rfl) (fun a hf => ?_)
          refine S.val hf hs (v := .bool true) rfl rfl rfl (V.pure rfl) (fun a hf => ?_)
          refine S.skip hf rfl rfl rfl (fun a hf => ?_)
          refine S.skip hf rfl rfl rfl (fun a hf => ?_)
          refine S.skip hf rfl rfl rfl (fun a hf => ?_)
          refine S.val hf hs (v := .bool true) rfl rfl rfl (V.pure rfl) (fun a hf => ?_)
          refine S.val hf hs (v := .bool true) rfl rfl rfl (V.pure rfl) (fun a hf => ?_)
          refine S.skip hf rfl rfl rfl (fun a hf => ?_)
          refine S.skip hf rfl rfl rfl (fun a hf => ?_)
          refine S.skip hf rfl rfl rfl (fun a hf => ?_)
          refine S.skip hf rfl rfl rfl (fun a hf => ?_)
          refine S.skip hf rfl rfl rfl (fun a hf => ?_)
          refine S.skip hf rfl rfl rfl (fun a hf => ?_)
          refine S.skip hf rfl rfl rfl (fun a hf => ?_)
          refine S.val hf hs (v := .bool true) rfl rfl rfl (V.pure rfl) (fun a hf => ?_)
          refine R.nil ?_
          refine X.then_ ?_
          exact ⟨true, h, (((((((hf.nil.cons (hf.get 46 _ rfl)).cons (hf.get 14 _ rfl)).cons (hf.get 13 _ rfl)).cons (hf.get 12 _ rfl)).cons (hf.get 8 _ rfl)).cons (hf.get 6 _ rfl)).cons (hf.get 1 _ rfl)), hs⟩
        · replace h := h.2 hc
          refine S.val hf hs (v := .string (ba s1)) rfl rfl rfl (V.pure rfl) (fun a hf => ?_)
          refine S.val hf hs (v := .int .i64 (s1.length : Int)) rfl rfl rfl (V.lenStr rfl rfl Tryz.runUnderlying9) (fun a hf => ?_)
          refine S.val hf hs (v := .bool (decide ((s1.length : Int) > 9))) rfl rfl rfl (V.pure rfl) (fun a hf => ?_)
          refine S.val hf hs (v := .bool (decide ((s1.length : Int) > 9))) rfl rfl rfl (V.pure rfl) (fun a hf => ?_)
          refine S.split hf hs (b := decide ((s1.length : Int) > 9)) rfl rfl rfl (V.pure rfl) (fun hc a hf => ?_) (fun hc a hf => ?_)
          · replace h := h.1 hc
            refine S.skip hf rfl rfl rfl (fun a hf => ?_)
            refine S.skip hf rfl rfl rfl (fun a hf => ?_)
            refine S.skip hf rfl rfl rfl (fun a hf => ?_)
            refine S.val hf hs (v := .bool true) rfl rfl rfl (V.pure rfl) (fun a hf => ?_)
            refine S.val hf hs (v := .bool true) rfl rfl rfl (V.pure rfl) (fun a hf => ?_)
            refine S.skip hf rfl rfl rfl (fun a hf => ?_)
            refine S.skip hf rfl rfl rfl (fun a hf => ?_)
            refine S.skip hf rfl rfl rfl (fun a hf => ?_)
            refine S.skip hf rfl rfl rfl (fun a hf => ?_)
            refine S.skip hf rfl rfl rfl (fun a hf => ?_)
            refine S.skip hf rfl rfl rfl (fun a hf => ?_)
            refine S.skip hf rfl rfl rfl (fun a hf => ?_)
            refine S.val hf hs (v := .bool true) rfl rfl rfl (V.pure rfl) (fun a hf => ?_)
            refine R.nil ?_
            refine X.then_ ?_
            exact ⟨true, h, (((((((hf.nil.cons (hf.get 46 _ rfl)).cons (hf.get 14 _ rfl)).cons (hf.get 13 _ rfl)).cons (hf.get 12 _ rfl)).cons (hf.get 8 _ rfl)).cons (hf.get 6 _ rfl)).cons (hf.get 1 _ rfl)), hs⟩
          · replace h := h.2 hc
            refine S.val hf hs (v := .string (ba s1)) rfl rfl rfl (V.pure rfl) (fun a hf => ?_)
            refine S.call hf rfl rfl rfl (call_fn (vs := [.string (ba s1), .string (ba [48, 49, 50, 51, 52, 53, 54, 55, 56, 57])]) rfl rfl rfl Tryz.call142) (R_strings_Trim s1 [48, 49, 50, 51, 52, 53, 54, 55, 56, 57] _  _ h) (fun v a w' hf hr => ?_)
            obtain ⟨y3, rfl, h2, hs2⟩ := hr
            replace h := h2; replace hs := hs.call hs2; clear h2 hs2
            refine S.val hf hs (v := .bool (!(y3 == []))) rfl rfl rfl (V.strCmp (!(y3 == [])) rfl rfl rfl rfl) (fun a hf => ?_)
            refine S.val hf hs (v := .bool (!(y3 == []))) rfl rfl rfl (V.pure rfl) (fun a hf => ?_)
            refine S.split hf hs (b := !(y3 == [])) rfl rfl rfl (V.pure rfl) (fun hc a hf => ?_) (fun hc a hf => ?_)
            · replace h := h.1 hc
              refine S.skip hf rfl rfl rfl (fun a hf => ?_)
              refine S.skip hf rfl rfl rfl (fun a hf => ?_)
              refine S.skip hf rfl rfl rfl (fun a hf => ?_)
              refine S.skip hf rfl rfl rfl (fun a hf => ?_)
              refine S.skip hf rfl rfl rfl (fun a hf => ?_)
              refine S.skip hf rfl rfl rfl (fun a hf => ?_)
              refine S.skip hf rfl rfl rfl (fun a hf => ?_)
              refine S.val hf hs (v := .bool true) rfl rfl rfl (V.pure rfl) (fun a hf => ?_)
              refine R.nil ?_
              refine X.then_ ?_
              exact ⟨true, h, (((((((hf.nil.cons (hf.get 46 _ rfl)).cons (hf.get 14 _ rfl)).cons (hf.get 13 _ rfl)).cons (hf.get 12 _ rfl)).cons (hf.get 8 _ rfl)).cons (hf.get 6 _ rfl)).cons (hf.get 1 _ rfl)), hs⟩
            · replace h := h.2 hc
              refine S.val hf hs (v := .string (ba s1)) rfl rfl rfl (V.pure rfl) (fun a hf => ?_)
              obtain ⟨h0x1, x1, hx1, h⟩ := h
              refine S.val hf hs (v := .int .u8 (x1.toNat : Int)) rfl rfl rfl (V.indexStr rfl rfl rfl Tryz.runUnderlying9 h0x1 hx1) (fun a hf => ?_)
              refine S.val hf hs (v := .bool ((x1.toNat : Int) == 48)) rfl rfl rfl (V.pure rfl) (fun a hf => ?_)
              refine S.split hf hs (b := (x1.toNat : Int) == 48) rfl rfl rfl (V.pure rfl) (fun hc a hf => ?_) (fun hc a hf => ?_)
              · replace h := h.1 hc
                refine S.val hf hs (v := .string (ba xk1)) rfl rfl rfl (V.pure rfl) (fun a hf => ?_)
                refine S.val hf hs (v := .bool (!(xk1 == [48]))) rfl rfl rfl (V.strCmp (!(xk1 == [48])) rfl rfl rfl rfl) (fun a hf => ?_)
                refine S.val hf hs (v := .bool (!(xk1 == [48]))) rfl rfl rfl (V.pure rfl) (fun a hf => ?_)
                refine S.val hf hs (v := .bool (!(xk1 == [48]))) rfl rfl rfl (V.pure rfl) (fun a hf => ?_)
                refine R.nil ?_
                refine X.then_ ?_
                exact ⟨(!(xk1 == [48])), h, (((((((hf.nil.cons (hf.get 46 _ rfl)).cons (hf.get 14 _ rfl)).cons (hf.get 13 _ rfl)).cons (hf.get 12 _ rfl)).cons (hf.get 8 _ rfl)).cons (hf.get 6 _ rfl)).cons (hf.get 1 _ rfl)), hs⟩
              · replace h := h.2 hc
                refine S.skip hf rfl rfl rfl (fun a hf => ?_)
                refine S.skip hf rfl rfl rfl (fun a hf => ?_)
                refine S.val hf hs (v := .bool false) rfl rfl rfl (V.pure rfl) (fun a hf => ?_)
                refine S.val hf hs (v := .bool false) rfl rfl rfl (V.pure rfl) (fun a hf => ?_)
                refine R.nil ?_
                refine X.then_ ?_
                exact ⟨false, h, (((((((hf.nil.cons (hf.get 46 _ rfl)).cons (hf.get 14 _ rfl)).cons (hf.get 13 _ rfl)).cons (hf.get 12 _ rfl)).cons (hf.get 8 _ rfl)).cons (hf.get 6 _ rfl)).cons (hf.get 1 _ rfl)), hs⟩
    · skip
      refine wp_seq ?_
      refine R.list ?_
      refine S.val hf hs (v := .int .i64 (k1 : Int)) rfl rfl rfl (V.pure rfl) (fun a hf => ?_)
      refine S.val hf hs (v := .int .i64 signed) rfl rfl rfl (V.pure rfl) (fun a hf => ?_)
      refine S.val hf hs (v := .bool (decide ((k1 : Int) < signed))) rfl rfl rfl (V.pure rfl) (fun a hf => ?_)
      refine R.nil ?_
      refine X.then_ ?_
      refine C.cond hf (b := decide ((k1 : Int) < signed)) rfl (fun hc => ?_) (fun hc => ?_)
      · replace h := h.1 hc
        refine R.list ?_
        refine S.val hf hs (v := .string (ba xk1)) rfl rfl rfl (V.pure rfl) (fun a hf => ?_)
        refine S.call hf rfl rfl rfl (call_fn (vs := [.string (ba xk1), .string (ba [45])]) rfl rfl rfl Tryz.call156) (R_strings_TrimPrefix xk1 [45] _  _ h) (fun v a w' hf hr => ?_)
        obtain ⟨y4, rfl, h2, hs2⟩ := hr
        replace h := h2; replace hs := hs.call hs2; clear h2 hs2
        refine S.val hf hs (v := .string (ba y4)) rfl rfl rfl (V.pure rfl) (fun a hf => ?_)
        refine R.nil ?_
        refine X.then_ ?_
        exact ⟨y4, h, (((((((hf.nil.cons (hf.get 14 _ rfl)).cons (hf.get 13 _ rfl)).cons (hf.get 12 _ rfl)).cons (hf.get 9 _ rfl)).cons (hf.get 8 _ rfl)).cons (hf.get 6 _ rfl)).cons (hf.get 1 _ rfl)), hs⟩
      · replace h := h.2 hc
        refine wp_skip ?_
        refine X.then_ ?_
        exact ⟨xk1, h, (((((((hf.nil.cons (hf.get 14 _ rfl)).cons (hf.get 13 _ rfl)).cons (hf.get 12 _ rfl)).cons (hf.get 9 _ rfl)).cons (hf.get 8 _ rfl)).cons (hf.get 6 _ rfl)).cons (hf.get 1 _ rfl)), hs⟩

set_option linter.unusedVariables false
def M_drill_readLine_k3 (t : (List Bit)) (j : (List Job)) (Q : Bool → (List Bit) → (List Job) → Prop) (y1 : (List Str)) (c3 : Bool) : Prop :=
  cnd c3 (must (0 ≤ (1 : Int) ∧ (1 : Int) ≤ 5 ∧ 5 ≤ (y1.length : Int)) (M_drill_numbers (seg y1 (1 : Int) 5) 2 fun y5 y6 => cnd (!y6) (Q false t j) (idx j (w64 ((j.length : Int) - 1)) fun x6 => idx y5 0 fun x7 => idx y5 1 fun x8 => idx y5 2 fun x9 => idx y5 3 fun x10 => idx y1 5 fun x11 => must (room (x6.Holes ++ [(⟨(⟨x7, x8⟩ : Point), x9, x10, x11 == [112]⟩ : Hole)]).length 40) (Q true t (j.set ((w64 ((j.length : Int) - 1)).toNat) (⟨x6.Tool, (x6.Holes ++ [(⟨(⟨x7, x8⟩ : Point), x9, x10, x11 == [112]⟩ : Hole)])⟩ : Job)))))) (Q false t j)
def M_drill_readLine_k2 (t : (List Bit)) (j : (List Job)) (Q : Bool → (List Bit) → (List Job) → Prop) (y1 : (List Str)) (c2 : Bool) : Prop :=
  cnd c2 (idx y1 1 fun x5 => must (room (j ++ [(⟨x5, ([] : List Hole)⟩ : Job)]).length 40) (Q true t (j ++ [(⟨x5, ([] : List Hole)⟩ : Job)]))) (idx y1 0 fun x12 => cnd (x12 == [104, 111, 108, 101]) (cnd ((y1.length : Int) == 6) (cnd (decide ((j.length : Int) > 0)) (idx y1 5 fun x13 => cnd (x13 == [112]) (M_drill_readLine_k3 t j Q y1 true) (M_drill_readLine_k3 t j Q y1 (x13 == [45]))) (M_drill_readLine_k3 t j Q y1 false)) (M_drill_readLine_k3 t j Q y1 false)) (M_drill_readLine_k3 t j Q y1 false))
def M_drill_readLine_k1 (t : (List Bit)) (j : (List Job)) (Q : Bool → (List Bit) → (List Job) → Prop) (y1 : (List Str)) (c1 : Bool) : Prop :=
  cnd c1 (must (0 ≤ (2 : Int) ∧ (2 : Int) ≤ (y1.length : Int) ∧ (y1.length : Int) ≤ (y1.length : Int)) (M_drill_numbers (seg y1 (2 : Int) (y1.length : Int)) 0 fun y3 y4 => cnd (!y4) (Q false t j) (idx y1 1 fun x1 => idx y3 0 fun x2 => idx y3 1 fun x3 => idx y3 2 fun x4 => must (room (t ++ [(⟨x1, x2, x3, x4⟩ : Bit)]).length 40) (Q true (t ++ [(⟨x1, x2, x3, x4⟩ : Bit)]) j)))) (idx y1 0 fun x14 => cnd (x14 == [106, 111, 98]) (M_drill_readLine_k2 t j Q y1 ((y1.length : Int) == 2)) (M_drill_readLine_k2 t j Q y1 false))
def M_drill_readLine (t : (List Bit)) (j : (List Job)) (s_ : Str) (Q : Bool → (List Bit) → (List Job) → Prop) : Prop :=
  M_strings_Split s_ [32] fun y1 => M_contains_drill y1 fun y2 => cnd y2 (Q false t j) (idx y1 0 fun x15 => cnd (x15 == [116, 111, 111, 108]) (cnd ((y1.length : Int) == 5) (M_drill_readLine_k1 t j Q y1 ((j.length : Int) == 0)) (M_drill_readLine_k1 t j Q y1 false)) (M_drill_readLine_k1 t j Q y1 false))
set_option maxHeartbeats 1000000 in
theorem R_drill_readLine (t : (List Bit)) (j : (List Job)) (s_ : Str) (w0 : World) (F0 : Nat → Prop) (tg : Nat) (tA : Option Addr) (tC : Nat) (jg : Nat) (jA : Option Addr) (jC : Nat) (jas : List (Option Addr × Nat)) (hs0 : Sat w0 F0 [hbox tg 35 [.slice tA t.length tC], hown 41 tA tC t, hbox jg 36 [.slice jA j.length jC], hrows 90 92 jA jC jas j] w0) (Q : Bool → (List Bit) → (List Job) → Prop) (h : M_drill_readLine t j s_ Q) :
    Ret Tryz.prog 46 #[.pointer (some ⟨tg, 0, none⟩), .pointer (some ⟨jg, 0, none⟩), .string (ba s_)] w0 fun v w' => ∃ (r0 : Bool) (t1 : (List Bit)) (t1A : Option Addr) (t1C : Nat) (j1 : (List Job)) (j1A : Option Addr) (j1C : Nat) (j1as : List (Option Addr × Nat)), v = .bool r0 ∧ Q r0 t1 j1 ∧ Sat w0 F0 [hbox tg 35 [.slice t1A t1.length t1C], hown 41 t1A t1C t1, hbox jg 36 [.slice j1A j1.length j1C], hrows 90 92 j1A j1C j1as j1] w' := by
  refine fn_enter Tryz.func46 rfl Tryz.ntmps46 rfl (fs := [(0, .pointer (some ⟨tg, 0, none⟩)), (1, .pointer (some ⟨jg, 0, none⟩)), (2, .string (ba s_))]) rfl (fun a hf => ?_)
  have hs := hs0
  unfold M_drill_readLine at h
  refine wp_seq ?_
  refine R.list ?_
  refine S.val hf hs (v := .bool false) rfl rfl rfl (V.pure rfl) (fun a hf => ?_)
  refine R.nil ?_
  refine X.then_ ?_
  refine wp_seq ?_
  refine R.list ?_
  refine S.val hf hs (v := .string (ba s_)) rfl rfl rfl (V.pure rfl) (fun a hf => ?_)
  refine S.call hf rfl rfl rfl (call_fn (vs := [.string (ba s_), .string (ba [32])]) rfl rfl rfl Tryz.call41) (R_strings_Split s_ [32] _  _ h) (fun v a w' hf hr => ?_)
  obtain ⟨y1, y1A, y1C, rfl, h2, hs2⟩ := hr
  replace h := h2; replace hs := hs.call hs2; clear h2 hs2
  refine S.val hf hs (v := .slice y1A y1.length y1C) rfl rfl rfl (V.pure rfl) (fun a hf => ?_)
  refine R.nil ?_
  refine X.then_ ?_
  refine wp_seq ?_
  refine wp_seq ?_
  refine R.list ?_
  refine S.val hf hs (v := .slice y1A y1.length y1C) rfl rfl rfl (V.pure rfl) (fun a hf => ?_)
  refine S.call hf rfl rfl rfl (call_fn (vs := [.slice y1A y1.length y1C, .func (.func 98) #[] #[]]) rfl rfl rfl Tryz.call80) (R_contains_drill y1 _ y1A y1C (hs.ownView 0 rfl) _ h) (fun v a w' hf hr => ?_)
  obtain ⟨y2, rfl, h2, hs2⟩ := hr
  replace h := h2; replace hs := hs.call hs2; clear h2 hs2
  refine R.nil ?_
  refine X.then_ ?_
  refine C.cond hf (b := y2) rfl (fun hc => ?_) (fun hc => ?_)
  · replace h := h.1 hc
    refine wp_seq ?_
    refine R.list ?_
    refine S.val hf hs (v := .bool false) rfl rfl rfl (V.pure rfl) (fun a hf => ?_)
    refine R.nil ?_
    refine X.then_ ?_
    refine wp_ret ?_
    refine X.then_ret ?_
    replace hs := hs.front 4 rfl
    replace hs := hs.front 4 rfl
    replace hs := hs.front 4 rfl
    replace hs := hs.front 4 rfl
    replace hs := hs.take 4
    exact L.ret hf (run_results1 Tryz.results46 (ResIs.tmp hf rfl)) ⟨false, t, tA, tC, j, jA, jC, jas, rfl, h, hs⟩
  · replace h := h.2 hc
    refine wp_skip ?_
    refine X.then_ ?_
    refine wp_seq ?_
    refine wp_block ?_
    refine wp_seq ?_
    refine C.cut (J := fun a w => ∃ (c1 : Bool), M_drill_readLine_k1 t j Q y1 c1 ∧ FrOk 156 [(0, .pointer (some ⟨tg, 0, none⟩)), (1, .pointer (some ⟨jg, 0, none⟩)), (7, .slice y1A y1.length y1C), (17, .bool c1)] a ∧ Sat w0 F0 [hown 9 y1A y1C y1, hbox tg 35 [.slice tA t.length tC], hown 41 tA tC t, hbox jg 36 [.slice jA j.length jC], hrows 90 92 jA jC jas j] w) ?_ ?_
    · rintro a w ⟨c1, h, hf, hs⟩
      unfold M_drill_readLine_k1 at h
      refine C.cond hf (b := c1) rfl (fun hc => ?_) (fun hc => ?_)
      · replace h := h.1 hc
        refine wp_seq ?_
        refine R.list ?_
        refine S.val hf hs (v := .slice y1A y1.length y1C) rfl rfl rfl (V.pure rfl) (fun a hf => ?_)
        obtain ⟨hp1, h⟩ := h
        refine S.val hf hs (v := .slice (segA y1A y1C ((2 : Int) : Int).toNat 1) (seg y1 (2 : Int) (y1.length : Int)).length (y1C - ((2 : Int) : Int).toNat)) rfl rfl rfl (V.slice rfl rfl rfl rfl Tryz.runUnderlying74 Tryz.sizeOf9 rfl rfl hp1 (hs.ownView 0 rfl).cap (seg_length (by have := hp1.2.2; omega))) (fun a hf => ?_)
        refine S.call hf rfl rfl rfl (call_fn (vs := [.slice (segA y1A y1C ((2 : Int) : Int).toNat 1) (seg y1 (2 : Int) (y1.length : Int)).length (y1C - ((2 : Int) : Int).toNat), .int .i64 0]) rfl rfl rfl Tryz.call101) (R_drill_numbers (seg y1 (2 : Int) (y1.length : Int)) 0 _ (segA y1A y1C ((2 : Int) : Int).toNat 1) (y1C - ((2 : Int) : Int).toNat) (View.sub (hs.ownView 0 rfl) hp1) _ h) (fun v a w' hf hr => ?_)
        obtain ⟨y3, y3A, y3C, y4, rfl, h2, hs2⟩ := hr
        replace h := h2; replace hs := hs.call hs2; clear h2 hs2
        refine S.val hf hs (v := .tuple #[.slice y3A y3.length y3C, .bool y4]) rfl rfl rfl (V.pure rfl) (fun a hf => ?_)
        refine S.val hf hs (v := .slice y3A y3.length y3C) rfl rfl rfl (V.pure rfl) (fun a hf => ?_)
        refine S.val hf hs (v := .bool y4) rfl rfl rfl (V.pure rfl) (fun a hf => ?_)
        refine S.val hf hs (v := .slice y3A y3.length y3C) rfl rfl rfl (V.pure rfl) (fun a hf => ?_)
        refine S.val hf hs (v := .bool y4) rfl rfl rfl (V.pure rfl) (fun a hf => ?_)
        refine R.nil ?_
        refine X.then_ ?_
        refine wp_seq ?_
        refine wp_seq ?_
        refine R.list ?_
        refine S.val hf hs (v := .bool y4) rfl rfl rfl (V.pure rfl) (fun a hf => ?_)
        refine S.val hf hs (v := .bool (!y4)) rfl rfl rfl (V.pure rfl) (fun a hf => ?_)
        refine R.nil ?_
        refine X.then_ ?_
        refine C.cond hf (b := !y4) rfl (fun hc => ?_) (fun hc => ?_)
        · replace h := h.1 hc
          refine wp_seq ?_
          refine R.list ?_
          refine S.val hf hs (v := .bool false) rfl rfl rfl (V.pure rfl) (fun a hf => ?_)
          refine R.nil ?_
          refine X.then_ ?_
          refine wp_ret ?_
          refine X.then_ret ?_
          refine X.blk_ret ?_
          refine X.then_ret ?_
          replace hs := hs.front 5 rfl
          replace hs := hs.front 5 rfl
          replace hs := hs.front 5 rfl
          replace hs := hs.front 5 rfl
          replace hs := hs.take 4
          exact L.ret hf (run_results1 Tryz.results46 (ResIs.tmp hf rfl)) ⟨false, t, tA, tC, j, jA, jC, jas, rfl, h, hs⟩
        · replace h := h.2 hc
          refine wp_skip ?_
          refine X.then_ ?_
          refine wp_seq ?_
          refine H.start (S := Sat w0 F0 [hown 3 y3A y3C y3, hown 9 y1A y1C y1, hbox jg 36 [.slice jA j.length jC], hrows 90 92 jA jC jas j]) mo ?_
          replace hs := hs.drew
          refine H.val hf (hs.mask [true, true, false, false, true, true]) (v := .pointer (some ⟨tg, 0, none⟩)) (i := 0) rfl rfl rfl rfl (by kernel_rfl) (by kernel_rfl) (by kernel_rfl) (V.pure rfl) (fun a hf => ?_)
          refine H.val hf (hs.mask [true, true, false, false, true, true]) (v := .pointer (some ⟨tg, 0, none⟩)) (i := 1) rfl rfl rfl rfl (by kernel_rfl) (by kernel_rfl) (by kernel_rfl) (V.pure rfl) (fun a hf => ?_)
          refine H.val hf (hs.mask [true, true, false, false, true, true]) (v := .pointer (some ⟨tg, 0, none⟩)) (i := 2) rfl rfl rfl rfl (by kernel_rfl) (by kernel_rfl) (by kernel_rfl) (V.pure rfl) (fun a hf => ?_)
          refine H.val hf (hs.mask [true, true, false, false, true, true]) (v := .slice y1A y1.length y1C) (i := 4) rfl rfl rfl rfl (by kernel_rfl) (by kernel_rfl) (by kernel_rfl) (V.pure rfl) (fun a hf => ?_)
          obtain ⟨h0x1, x1, hx1, h⟩ := h
          refine H.val hf (hs.mask [true, true, false, false, true, true]) (v := elemPtr y1A (1 * 1)) (i := 5) rfl rfl rfl rfl (by kernel_rfl) (by kernel_rfl) (by kernel_rfl) (V.index rfl rfl rfl Tryz.runUnderlying74 Tryz.sizeOf9 (hs.ownSome 1 rfl (lt_of_get hx1)) h0x1 (lt_of_get hx1) rfl) (fun a hf => ?_)
          refine H.val hf (hs.mask [true, true, false, false, true, true]) (v := .string (ba x1)) (i := 6) rfl rfl rfl rfl (by kernel_rfl) (by kernel_rfl) (by kernel_rfl) (V.loadOwn (off := 0) 1 rfl hx1 rfl rfl rfl Tryz.isAgg9 Tryz.sizeOf9 rfl rfl) (fun a hf => ?_)
          refine H.val hf (hs.mask [true, true, false, false, true, true]) (v := .slice y3A y3.length y3C) (i := 7) rfl rfl rfl rfl (by kernel_rfl) (by kernel_rfl) (by kernel_rfl) (V.pure rfl) (fun a hf => ?_)
          obtain ⟨h0x2, x2, hx2, h⟩ := h
          refine H.val hf (hs.mask [true, true, false, false, true, true]) (v := elemPtr y3A (0 * 1)) (i := 8) rfl rfl rfl rfl (by kernel_rfl) (by kernel_rfl) (by kernel_rfl) (V.index rfl rfl rfl Tryz.runUnderlying118 Tryz.sizeOf3 (hs.ownSome 0 rfl (lt_of_get hx2)) h0x2 (lt_of_get hx2) rfl) (fun a hf => ?_)
          refine H.val hf (hs.mask [true, true, false, false, true, true]) (v := .int .i64 x2) (i := 9) rfl rfl rfl rfl (by kernel_rfl) (by kernel_rfl) (by kernel_rfl) (V.loadOwn (off := 0) 0 rfl hx2 rfl rfl rfl Tryz.isAgg3 Tryz.sizeOf3 rfl rfl) (fun a hf => ?_)
          refine H.val hf (hs.mask [true, true, false, false, true, true]) (v := .slice y3A y3.length y3C) (i := 10) rfl rfl rfl rfl (by kernel_rfl) (by kernel_rfl) (by kernel_rfl) (V.pure rfl) (fun a hf => ?_)
          obtain ⟨h0x3, x3, hx3, h⟩ := h
          refine H.val hf (hs.mask [true, true, false, false, true, true]) (v := elemPtr y3A (1 * 1)) (i := 11) rfl rfl rfl rfl (by kernel_rfl) (by kernel_rfl) (by kernel_rfl) (V.index rfl rfl rfl Tryz.runUnderlying118 Tryz.sizeOf3 (hs.ownSome 0 rfl (lt_of_get hx3)) h0x3 (lt_of_get hx3) rfl) (fun a hf => ?_)
          refine H.val hf (hs.mask [true, true, false, false, true, true]) (v := .int .i64 x3) (i := 12) rfl rfl rfl rfl (by kernel_rfl) (by kernel_rfl) (by kernel_rfl) (V.loadOwn (off := 0) 0 rfl hx3 rfl rfl rfl Tryz.isAgg3 Tryz.sizeOf3 rfl rfl) (fun a hf => ?_)
          refine H.val hf (hs.mask [true, true, false, false, true, true]) (v := .slice y3A y3.length y3C) (i := 13) rfl rfl rfl rfl (by kernel_rfl) (by kernel_rfl) (by kernel_rfl) (V.pure rfl) (fun a hf => ?_)
          obtain ⟨h0x4, x4, hx4, h⟩ := h
          refine H.val hf (hs.mask [true, true, false, false, true, true]) (v := elemPtr y3A (2 * 1)) (i := 14) rfl rfl rfl rfl (by kernel_rfl) (by kernel_rfl) (by kernel_rfl) (V.index rfl rfl rfl Tryz.runUnderlying118 Tryz.sizeOf3 (hs.ownSome 0 rfl (lt_of_get hx4)) h0x4 (lt_of_get hx4) rfl) (fun a hf => ?_)
          refine H.val hf (hs.mask [true, true, false, false, true, true]) (v := .int .i64 x4) (i := 15) rfl rfl rfl rfl (by kernel_rfl) (by kernel_rfl) (by kernel_rfl) (V.loadOwn (off := 0) 0 rfl hx4 rfl rfl rfl Tryz.isAgg3 Tryz.sizeOf3 rfl rfl) (fun a hf => ?_)
          refine H.each2 (i0 := 3) (i1 := 16) rfl rfl (by kernel_rfl) ?_ ?_
          · refine S.val hf hs (v := .slice tA t.length tC) rfl rfl rfl (V.loadBox 2 rfl rfl rfl Tryz.isAgg35 Tryz.sizeOf35 rfl rfl) (fun a hf => ?_)
            refine R.nil ?_
            refine X.then_ ?_
            refine ⟨(hs.mask [true, true, false, false, true, true]), ?_⟩
            refine H.one (i := 16) rfl (by kernel_rfl) ?_
            refine S.val hf hs (v := .agg #[.string (ba x1), .int .i64 x2, .int .i64 x3, .int .i64 x4]) rfl rfl rfl (V.build (places := #[(0, 1), (1, 1), (2, 1), (3, 1)]) rfl Tryz.zeroValue41 Tryz.runUnderlying41 (by intro w; simp [Tryz.sizeOf3, Tryz.sizeOf9]) rfl rfl) (fun a hf => ?_)
            refine R.nil ?_
            refine X.then_ ?_
            refine ⟨(hs.mask [true, true, false, false, true, true]), ?_⟩
            refine H.one (i := 17) rfl (by kernel_rfl) ?_
            refine S.build1 hf hs rfl rfl rfl (α := Bit) (⟨x1, x2, x3, x4⟩ : Bit) rfl rfl rfl Tryz.runUnderlying35 Tryz.sizeOf41 Tryz.zeroValue41 rfl (by decide) (fun A1 a w hf hs => ?_)
            refine R.nil ?_
            refine X.then_ ?_
            refine ⟨(hs.mask [false, true, true, false, false, true, true]), ?_⟩
            refine H.one (i := 18) rfl (by kernel_rfl) ?_
            obtain ⟨hroom, h⟩ := h
            refine S.appendCells 4 hf hs rfl rfl rfl rfl rfl rfl rfl Tryz.underlying35 info41 rfl hroom ((hs.ownView 0 rfl).some_ (i := 0) (by simp)) (hs.ownView 0 rfl) (fun A2 C1 a w hf hs => ?_)
            replace hs := hs.drop
            refine R.nil ?_
            refine X.then_ ?_
            refine ⟨(hs.mask [true, true, false, false, true, true]), ?_⟩
            refine H.val hf (hs.mask [true, true, false, false, true, true]) (v := .pointer (some ⟨tg, 0, none⟩)) (i := 19) rfl rfl rfl rfl (by kernel_rfl) (by kernel_rfl) (by kernel_rfl) (V.pure rfl) (fun a hf => ?_)
            refine H.one (i := 20) rfl (by kernel_rfl) ?_
            refine S.storeBox 2 hf hs rfl rfl [.slice A2 (t ++ [(⟨x1, x2, x3, x4⟩ : Bit)]).length C1] [.slice A2 (t ++ [(⟨x1, x2, x3, x4⟩ : Bit)]).length C1] rfl rfl rfl rfl rfl Tryz.sizeOf35 rfl rfl rfl rfl (fun a w hf hs => ?_)
            refine R.nil ?_
            refine X.then_ ?_
            refine ⟨(hs.mask [true, true, false, false, true, true]), ?_⟩
            refine H.done (by kernel_rfl) ?_
            refine X.then_ ?_
            refine wp_seq ?_
            refine R.list ?_
            refine S.val hf hs (v := .bool true) rfl rfl rfl (V.pure rfl) (fun a hf => ?_)
            refine R.nil ?_
            refine X.then_ ?_
            refine wp_ret ?_
            refine X.blk_ret ?_
            refine X.then_ret ?_
            replace hs := hs.front 5 rfl
            replace hs := hs.front 5 rfl
            replace hs := hs.front 5 rfl
            replace hs := hs.front 5 rfl
            replace hs := hs.take 4
            exact L.ret hf (run_results1 Tryz.results46 (ResIs.tmp hf rfl)) ⟨true, (t ++ [(⟨x1, x2, x3, x4⟩ : Bit)]), A2, C1, j, jA, jC, jas, rfl, h, hs⟩
          · refine S.val hf hs (v := .agg #[.string (ba x1), .int .i64 x2, .int .i64 x3, .int .i64 x4]) rfl rfl rfl (V.build (places := #[(0, 1), (1, 1), (2, 1), (3, 1)]) rfl Tryz.zeroValue41 Tryz.runUnderlying41 (by intro w; simp [Tryz.sizeOf3, Tryz.sizeOf9]) rfl rfl) (fun a hf => ?_)
            refine R.nil ?_
            refine X.then_ ?_
            refine ⟨(hs.mask [true, true, false, false, true, true]), ?_⟩
            refine H.each2 (i0 := 3) (i1 := 17) rfl rfl (by kernel_rfl) ?_ ?_
            · refine S.val hf hs (v := .slice tA t.length tC) rfl rfl rfl (V.loadBox 2 rfl rfl rfl Tryz.isAgg35 Tryz.sizeOf35 rfl rfl) (fun a hf => ?_)
              refine R.nil ?_
              refine X.then_ ?_
              refine ⟨(hs.mask [true, true, false, false, true, true]), ?_⟩
              refine H.one (i := 17) rfl (by kernel_rfl) ?_
              refine S.build1 hf hs rfl rfl rfl (α := Bit) (⟨x1, x2, x3, x4⟩ : Bit) rfl rfl rfl Tryz.runUnderlying35 Tryz.sizeOf41 Tryz.zeroValue41 rfl (by decide) (fun A1 a w hf hs => ?_)
              refine R.nil ?_
              refine X.then_ ?_
              refine ⟨(hs.mask [false, true, true, false, false, true, true]), ?_⟩
              refine H.one (i := 18) rfl (by kernel_rfl) ?_
              obtain ⟨hroom, h⟩ := h
              refine S.appendCells 4 hf hs rfl rfl rfl rfl rfl rfl rfl Tryz.underlying35 info41 rfl hroom ((hs.ownView 0 rfl).some_ (i := 0) (by simp)) (hs.ownView 0 rfl) (fun A2 C1 a w hf hs => ?_)
              replace hs := hs.drop
              refine R.nil ?_
              refine X.then_ ?_
              refine ⟨(hs.mask [true, true, false, false, true, true]), ?_⟩
              refine H.val hf (hs.mask [true, true, false, false, true, true]) (v := .pointer (some ⟨tg, 0, none⟩)) (i := 19) rfl rfl rfl rfl (by kernel_rfl) (by kernel_rfl) (by kernel_rfl) (V.pure rfl) (fun a hf => ?_)
              refine H.one (i := 20) rfl (by kernel_rfl) ?_
              refine S.storeBox 2 hf hs rfl rfl [.slice A2 (t ++ [(⟨x1, x2, x3, x4⟩ : Bit)]).length C1] [.slice A2 (t ++ [(⟨x1, x2, x3, x4⟩ : Bit)]).length C1] rfl rfl rfl rfl rfl Tryz.sizeOf35 rfl rfl rfl rfl (fun a w hf hs => ?_)
              refine R.nil ?_
              refine X.then_ ?_
              refine ⟨(hs.mask [true, true, false, false, true, true]), ?_⟩
              refine H.done (by kernel_rfl) ?_
              refine X.then_ ?_
              refine wp_seq ?_
              refine R.list ?_
              refine S.val hf hs (v := .bool true) rfl rfl rfl (V.pure rfl) (fun a hf => ?_)
              refine R.nil ?_
              refine X.then_ ?_
              refine wp_ret ?_
              refine X.blk_ret ?_
              refine X.then_ret ?_
              replace hs := hs.front 5 rfl
              replace hs := hs.front 5 rfl
              replace hs := hs.front 5 rfl
              replace hs := hs.front 5 rfl
              replace hs := hs.take 4
              exact L.ret hf (run_results1 Tryz.results46 (ResIs.tmp hf rfl)) ⟨true, (t ++ [(⟨x1, x2, x3, x4⟩ : Bit)]), A2, C1, j, jA, jC, jas, rfl, h, hs⟩
            · refine S.build1 hf hs rfl rfl rfl (α := Bit) (⟨x1, x2, x3, x4⟩ : Bit) rfl rfl rfl Tryz.runUnderlying35 Tryz.sizeOf41 Tryz.zeroValue41 rfl (by decide) (fun A1 a w hf hs => ?_)
              refine R.nil ?_
              refine X.then_ ?_
              refine ⟨(hs.mask [false, true, true, false, false, true, true]), ?_⟩
              refine H.one (i := 3) rfl (by kernel_rfl) ?_
              refine S.val hf hs (v := .slice tA t.length tC) rfl rfl rfl (V.loadBox 3 rfl rfl rfl Tryz.isAgg35 Tryz.sizeOf35 rfl rfl) (fun a hf => ?_)
              refine R.nil ?_
              refine X.then_ ?_
              refine ⟨(hs.mask [false, true, true, false, false, true, true]), ?_⟩
              refine H.one (i := 18) rfl (by kernel_rfl) ?_
              obtain ⟨hroom, h⟩ := h
              refine S.appendCells 4 hf hs rfl rfl rfl rfl rfl rfl rfl Tryz.underlying35 info41 rfl hroom ((hs.ownView 0 rfl).some_ (i := 0) (by simp)) (hs.ownView 0 rfl) (fun A2 C1 a w hf hs => ?_)
              replace hs := hs.drop
              refine R.nil ?_
              refine X.then_ ?_
              refine ⟨(hs.mask [true, true, false, false, true, true]), ?_⟩
              refine H.val hf (hs.mask [true, true, false, false, true, true]) (v := .pointer (some ⟨tg, 0, none⟩)) (i := 19) rfl rfl rfl rfl (by kernel_rfl) (by kernel_rfl) (by kernel_rfl) (V.pure rfl) (fun a hf => ?_)
              refine H.one (i := 20) rfl (by kernel_rfl) ?_
              refine S.storeBox 2 hf hs rfl rfl [.slice A2 (t ++ [(⟨x1, x2, x3, x4⟩ : Bit)]).length C1] [.slice A2 (t ++ [(⟨x1, x2, x3, x4⟩ : Bit)]).length C1] rfl rfl rfl rfl rfl Tryz.sizeOf35 rfl rfl rfl rfl (fun a w hf hs => ?_)
              refine R.nil ?_
              refine X.then_ ?_
              refine ⟨(hs.mask [true, true, false, false, true, true]), ?_⟩
              refine H.done (by kernel_rfl) ?_
              refine X.then_ ?_
              refine wp_seq ?_
              refine R.list ?_
              refine S.val hf hs (v := .bool true) rfl rfl rfl (V.pure rfl) (fun a hf => ?_)
              refine R.nil ?_
              refine X.then_ ?_
              refine wp_ret ?_
              refine X.blk_ret ?_
              refine X.then_ret ?_
              replace hs := hs.front 5 rfl
              replace hs := hs.front 5 rfl
              replace hs := hs.front 5 rfl
              replace hs := hs.front 5 rfl
              replace hs := hs.take 4
              exact L.ret hf (run_results1 Tryz.results46 (ResIs.tmp hf rfl)) ⟨true, (t ++ [(⟨x1, x2, x3, x4⟩ : Bit)]), A2, C1, j, jA, jC, jas, rfl, h, hs⟩
      · replace h := h.2 hc
        refine wp_seq ?_
        refine C.cut (J := fun a w => ∃ (c2 : Bool), M_drill_readLine_k2 t j Q y1 c2 ∧ FrOk 156 [(1, .pointer (some ⟨jg, 0, none⟩)), (7, .slice y1A y1.length y1C), (62, .bool c2)] a ∧ Sat w0 F0 [hown 9 y1A y1C y1, hbox tg 35 [.slice tA t.length tC], hown 41 tA tC t, hbox jg 36 [.slice jA j.length jC], hrows 90 92 jA jC jas j] w) ?_ ?_
        · rintro a w ⟨c2, h, hf, hs⟩
          unfold M_drill_readLine_k2 at h
          refine C.cond hf (b := c2) rfl (fun hc => ?_) (fun hc => ?_)
          · replace h := h.1 hc
            refine wp_seq ?_
            refine H.start (S := Sat w0 F0 [hown 9 y1A y1C y1, hbox tg 35 [.slice tA t.length tC], hown 41 tA tC t]) mo ?_
            replace hs := hs.drew
            refine H.val hf (hs.mask [true, true, true, false, false]) (v := .pointer (some ⟨jg, 0, none⟩)) (i := 0) rfl rfl rfl rfl (by kernel_rfl) (by kernel_rfl) (by kernel_rfl) (V.pure rfl) (fun a hf => ?_)
            refine H.val hf (hs.mask [true, true, true, false, false]) (v := .pointer (some ⟨jg, 0, none⟩)) (i := 1) rfl rfl rfl rfl (by kernel_rfl) (by kernel_rfl) (by kernel_rfl) (V.pure rfl) (fun a hf => ?_)
            refine H.val hf (hs.mask [true, true, true, false, false]) (v := .pointer (some ⟨jg, 0, none⟩)) (i := 2) rfl rfl rfl rfl (by kernel_rfl) (by kernel_rfl) (by kernel_rfl) (V.pure rfl) (fun a hf => ?_)
            refine H.val hf (hs.mask [true, true, true, false, false]) (v := .slice y1A y1.length y1C) (i := 4) rfl rfl rfl rfl (by kernel_rfl) (by kernel_rfl) (by kernel_rfl) (V.pure rfl) (fun a hf => ?_)
            obtain ⟨h0x5, x5, hx5, h⟩ := h
            refine H.val hf (hs.mask [true, true, true, false, false]) (v := elemPtr y1A (1 * 1)) (i := 5) rfl rfl rfl rfl (by kernel_rfl) (by kernel_rfl) (by kernel_rfl) (V.index rfl rfl rfl Tryz.runUnderlying74 Tryz.sizeOf9 (hs.ownSome 0 rfl (lt_of_get hx5)) h0x5 (lt_of_get hx5) rfl) (fun a hf => ?_)
            refine H.val hf (hs.mask [true, true, true, false, false]) (v := .string (ba x5)) (i := 6) rfl rfl rfl rfl (by kernel_rfl) (by kernel_rfl) (by kernel_rfl) (V.loadOwn (off := 0) 0 rfl hx5 rfl rfl rfl Tryz.isAgg9 Tryz.sizeOf9 rfl rfl) (fun a hf => ?_)
            refine H.each2 (i0 := 3) (i1 := 7) rfl rfl (by kernel_rfl) ?_ ?_
            · refine S.val hf hs (v := .slice jA j.length jC) rfl rfl rfl (V.loadBox 3 rfl rfl rfl Tryz.isAgg36 Tryz.sizeOf36 rfl rfl) (fun a hf => ?_)
              refine R.nil ?_
              refine X.then_ ?_
              refine ⟨(hs.mask [true, true, true, false, false]), ?_⟩
              refine H.one (i := 7) rfl (by kernel_rfl) ?_
              refine S.val hf hs (v := .agg #[.string (ba x5), .slice none 0 0]) rfl rfl rfl (V.build (places := #[(0, 1), (1, 1)]) rfl Tryz.zeroValue90 Tryz.runUnderlying90 (by intro w; simp [Tryz.sizeOf88, Tryz.sizeOf9]) rfl rfl) (fun a hf => ?_)
              refine R.nil ?_
              refine X.then_ ?_
              refine ⟨(hs.mask [true, true, true, false, false]), ?_⟩
              refine H.one (i := 8) rfl (by kernel_rfl) ?_
              replace hs := hs.nilOwn (α := Hole) 92
              refine S.build1 hf hs rfl rfl rfl (α := JobSh) (⟨x5, ⟨none, ([] : List Hole).length, 0⟩⟩ : JobSh) rfl rfl rfl Tryz.runUnderlying36 Tryz.sizeOf90 Tryz.zeroValue90 rfl (by decide) (fun A3 a w hf hs => ?_)
              refine R.nil ?_
              refine X.then_ ?_
              refine ⟨(hs.mask [false, false, true, true, true, false, false]), ?_⟩
              refine H.one (i := 9) rfl (by kernel_rfl) ?_
              replace hs := hs.front 1 rfl
              obtain ⟨hroom, h⟩ := h
              refine S.appendRow 5 hf hs rfl rfl rfl (⟨x5, ([] : List Hole)⟩ : Job) rfl rfl rfl rfl rfl Tryz.underlying36 info90 rfl hroom ((hs.ownView 1 rfl).some_ (i := 0) (by simp)) (hs.ownView 1 rfl) (fun A4 C2 a w hf hs => ?_)
              replace hs := hs.drop
              refine R.nil ?_
              refine X.then_ ?_
              refine ⟨(hs.mask [true, true, true, false, false]), ?_⟩
              refine H.val hf (hs.mask [true, true, true, false, false]) (v := .pointer (some ⟨jg, 0, none⟩)) (i := 10) rfl rfl rfl rfl (by kernel_rfl) (by kernel_rfl) (by kernel_rfl) (V.pure rfl) (fun a hf => ?_)
              refine H.one (i := 11) rfl (by kernel_rfl) ?_
              refine S.storeBox 3 hf hs rfl rfl [.slice A4 (j ++ [(⟨x5, ([] : List Hole)⟩ : Job)]).length C2] [.slice A4 (j ++ [(⟨x5, ([] : List Hole)⟩ : Job)]).length C2] rfl rfl rfl rfl rfl Tryz.sizeOf36 rfl rfl rfl rfl (fun a w hf hs => ?_)
              refine R.nil ?_
              refine X.then_ ?_
              refine ⟨(hs.mask [true, true, true, false, false]), ?_⟩
              refine H.done (by kernel_rfl) ?_
              refine X.then_ ?_
              refine wp_seq ?_
              refine R.list ?_
              refine S.val hf hs (v := .bool true) rfl rfl rfl (V.pure rfl) (fun a hf => ?_)
              refine R.nil ?_
              refine X.then_ ?_
              refine wp_ret ?_
              refine X.blk_ret ?_
              refine X.then_ret ?_
              replace hs := hs.front 4 rfl
              replace hs := hs.front 4 rfl
              replace hs := hs.front 4 rfl
              replace hs := hs.front 4 rfl
              replace hs := hs.take 4
              exact L.ret hf (run_results1 Tryz.results46 (ResIs.tmp hf rfl)) ⟨true, t, tA, tC, (j ++ [(⟨x5, ([] : List Hole)⟩ : Job)]), A4, C2, (jas ++ [(none, 0)]), rfl, h, hs⟩
            · refine S.val hf hs (v := .agg #[.string (ba x5), .slice none 0 0]) rfl rfl rfl (V.build (places := #[(0, 1), (1, 1)]) rfl Tryz.zeroValue90 Tryz.runUnderlying90 (by intro w; simp [Tryz.sizeOf88, Tryz.sizeOf9]) rfl rfl) (fun a hf => ?_)
              refine R.nil ?_
              refine X.then_ ?_
              refine ⟨(hs.mask [true, true, true, false, false]), ?_⟩
              refine H.each2 (i0 := 3) (i1 := 8) rfl rfl (by kernel_rfl) ?_ ?_
              · refine S.val hf hs (v := .slice jA j.length jC) rfl rfl rfl (V.loadBox 3 rfl rfl rfl Tryz.isAgg36 Tryz.sizeOf36 rfl rfl) (fun a hf => ?_)
                refine R.nil ?_
                refine X.then_ ?_
                refine ⟨(hs.mask [true, true, true, false, false]), ?_⟩
                refine H.one (i := 8) rfl (by kernel_rfl) ?_
                replace hs := hs.nilOwn (α := Hole) 92
                refine S.build1 hf hs rfl rfl rfl (α := JobSh) (⟨x5, ⟨none, ([] : List Hole).length, 0⟩⟩ : JobSh) rfl rfl rfl Tryz.runUnderlying36 Tryz.sizeOf90 Tryz.zeroValue90 rfl (by decide) (fun A3 a w hf hs => ?_)
                refine R.nil ?_
                refine X.then_ ?_
                refine ⟨(hs.mask [false, false, true, true, true, false, false]), ?_⟩
                refine H.one (i := 9) rfl (by kernel_rfl) ?_
                replace hs := hs.front 1 rfl
                obtain ⟨hroom, h⟩ := h
                refine S.appendRow 5 hf hs rfl rfl rfl (⟨x5, ([] : List Hole)⟩ : Job) rfl rfl rfl rfl rfl Tryz.underlying36 info90 rfl hroom ((hs.ownView 1 rfl).some_ (i := 0) (by simp)) (hs.ownView 1 rfl) (fun A4 C2 a w hf hs => ?_)
                replace hs := hs.drop
                refine R.nil ?_
                refine X.then_ ?_
                refine ⟨(hs.mask [true, true, true, false, false]), ?_⟩
                refine H.val hf (hs.mask [true, true, true, false, false]) (v := .pointer (some ⟨jg, 0, none⟩)) (i := 10) rfl rfl rfl rfl (by kernel_rfl) (by kernel_rfl) (by kernel_rfl) (V.pure rfl) (fun a hf => ?_)
                refine H.one (i := 11) rfl (by kernel_rfl) ?_
                refine S.storeBox 3 hf hs rfl rfl [.slice A4 (j ++ [(⟨x5, ([] : List Hole)⟩ : Job)]).length C2] [.slice A4 (j ++ [(⟨x5, ([] : List Hole)⟩ : Job)]).length C2] rfl rfl rfl rfl rfl Tryz.sizeOf36 rfl rfl rfl rfl (fun a w hf hs => ?_)
                refine R.nil ?_
                refine X.then_ ?_
                refine ⟨(hs.mask [true, true, true, false, false]), ?_⟩
                refine H.done (by kernel_rfl) ?_
                refine X.then_ ?_
                refine wp_seq ?_
                refine R.list ?_
                refine S.val hf hs (v := .bool true) rfl rfl rfl (V.pure rfl) (fun a hf => ?_)
                refine R.nil ?_
                refine X.then_ ?_
                refine wp_ret ?_
                refine X.blk_ret ?_
                refine X.then_ret ?_
                replace hs := hs.front 4 rfl
                replace hs := hs.front 4 rfl
                replace hs := hs.front 4 rfl
                replace hs := hs.front 4 rfl
                replace hs := hs.take 4
                exact L.ret hf (run_results1 Tryz.results46 (ResIs.tmp hf rfl)) ⟨true, t, tA, tC, (j ++ [(⟨x5, ([] : List Hole)⟩ : Job)]), A4, C2, (jas ++ [(none, 0)]), rfl, h, hs⟩
              · replace hs := hs.nilOwn (α := Hole) 92
                refine S.build1 hf hs rfl rfl rfl (α := JobSh) (⟨x5, ⟨none, ([] : List Hole).length, 0⟩⟩ : JobSh) rfl rfl rfl Tryz.runUnderlying36 Tryz.sizeOf90 Tryz.zeroValue90 rfl (by decide) (fun A3 a w hf hs => ?_)
                refine R.nil ?_
                refine X.then_ ?_
                refine ⟨(hs.mask [false, false, true, true, true, false, false]), ?_⟩
                refine H.one (i := 3) rfl (by kernel_rfl) ?_
                refine S.val hf hs (v := .slice jA j.length jC) rfl rfl rfl (V.loadBox 5 rfl rfl rfl Tryz.isAgg36 Tryz.sizeOf36 rfl rfl) (fun a hf => ?_)
                refine R.nil ?_
                refine X.then_ ?_
                refine ⟨(hs.mask [false, false, true, true, true, false, false]), ?_⟩
                refine H.one (i := 9) rfl (by kernel_rfl) ?_
                replace hs := hs.front 1 rfl
                obtain ⟨hroom, h⟩ := h
                refine S.appendRow 5 hf hs rfl rfl rfl (⟨x5, ([] : List Hole)⟩ : Job) rfl rfl rfl rfl rfl Tryz.underlying36 info90 rfl hroom ((hs.ownView 1 rfl).some_ (i := 0) (by simp)) (hs.ownView 1 rfl) (fun A4 C2 a w hf hs => ?_)
                replace hs := hs.drop
                refine R.nil ?_
                refine X.then_ ?_
                refine ⟨(hs.mask [true, true, true, false, false]), ?_⟩
                refine H.val hf (hs.mask [true, true, true, false, false]) (v := .pointer (some ⟨jg, 0, none⟩)) (i := 10) rfl rfl rfl rfl (by kernel_rfl) (by kernel_rfl) (by kernel_rfl) (V.pure rfl) (fun a hf => ?_)
                refine H.one (i := 11) rfl (by kernel_rfl) ?_
                refine S.storeBox 3 hf hs rfl rfl [.slice A4 (j ++ [(⟨x5, ([] : List Hole)⟩ : Job)]).length C2] [.slice A4 (j ++ [(⟨x5, ([] : List Hole)⟩ : Job)]).length C2] rfl rfl rfl rfl rfl Tryz.sizeOf36 rfl rfl rfl rfl (fun a w hf hs => ?_)
                refine R.nil ?_
                refine X.then_ ?_
                refine ⟨(hs.mask [true, true, true, false, false]), ?_⟩
                refine H.done (by kernel_rfl) ?_
                refine X.then_ ?_
                refine wp_seq ?_
                refine R.list ?_
                refine S.val hf hs (v := .bool true) rfl rfl rfl (V.pure rfl) (fun a hf => ?_)
                refine R.nil ?_
                refine X.then_ ?_
                refine wp_ret ?_
                refine X.blk_ret ?_
                refine X.then_ret ?_
                replace hs := hs.front 4 rfl
                replace hs := hs.front 4 rfl
                replace hs := hs.front 4 rfl
                replace hs := hs.front 4 rfl
                replace hs := hs.take 4
                exact L.ret hf (run_results1 Tryz.results46 (ResIs.tmp hf rfl)) ⟨true, t, tA, tC, (j ++ [(⟨x5, ([] : List Hole)⟩ : Job)]), A4, C2, (jas ++ [(none, 0)]), rfl, h, hs⟩
          · replace h := h.2 hc
            refine wp_seq ?_
            refine C.cut (J := fun a w => ∃ (c3 : Bool), M_drill_readLine_k3 t j Q y1 c3 ∧ FrOk 156 [(1, .pointer (some ⟨jg, 0, none⟩)), (7, .slice y1A y1.length y1C), (83, .bool c3)] a ∧ Sat w0 F0 [hown 9 y1A y1C y1, hbox tg 35 [.slice tA t.length tC], hown 41 tA tC t, hbox jg 36 [.slice jA j.length jC], hrows 90 92 jA jC jas j] w) ?_ ?_
            · rintro a w ⟨c3, h, hf, hs⟩
              unfold M_drill_readLine_k3 at h
              refine C.cond hf (b := c3) rfl (fun hc => ?_) (fun hc => ?_)
              · replace h := h.1 hc
                refine wp_seq ?_
                refine R.list ?_
                refine S.val hf hs (v := .slice y1A y1.length y1C) rfl rfl rfl (V.pure rfl) (fun a hf => ?_)
                obtain ⟨hp2, h⟩ := h
                refine S.val hf hs (v := .slice (segA y1A y1C ((1 : Int) : Int).toNat 1) (seg y1 (1 : Int) 5).length (y1C - ((1 : Int) : Int).toNat)) rfl rfl rfl (V.slice rfl rfl rfl rfl Tryz.runUnderlying74 Tryz.sizeOf9 rfl rfl hp2 (hs.ownView 0 rfl).cap (seg_length (by have := hp2.2.2; omega))) (fun a hf => ?_)
                refine S.call hf rfl rfl rfl (call_fn (vs := [.slice (segA y1A y1C ((1 : Int) : Int).toNat 1) (seg y1 (1 : Int) 5).length (y1C - ((1 : Int) : Int).toNat), .int .i64 2]) rfl rfl rfl Tryz.call101) (R_drill_numbers (seg y1 (1 : Int) 5) 2 _ (segA y1A y1C ((1 : Int) : Int).toNat 1) (y1C - ((1 : Int) : Int).toNat) (View.sub (hs.ownView 0 rfl) hp2) _ h) (fun v a w' hf hr => ?_)
                obtain ⟨y5, y5A, y5C, y6, rfl, h2, hs2⟩ := hr
                replace h := h2; replace hs := hs.call hs2; clear h2 hs2
                refine S.val hf hs (v := .tuple #[.slice y5A y5.length y5C, .bool y6]) rfl rfl rfl (V.pure rfl) (fun a hf => ?_)
                refine S.val hf hs (v := .slice y5A y5.length y5C) rfl rfl rfl (V.pure rfl) (fun a hf => ?_)
                refine S.val hf hs (v := .bool y6) rfl rfl rfl (V.pure rfl) (fun a hf => ?_)
                refine S.val hf hs (v := .slice y5A y5.length y5C) rfl rfl rfl (V.pure rfl) (fun a hf => ?_)
                refine S.val hf hs (v := .bool y6) rfl rfl rfl (V.pure rfl) (fun a hf => ?_)
                refine R.nil ?_
                refine X.then_ ?_
                refine wp_seq ?_
                refine wp_seq ?_
                refine R.list ?_
                refine S.val hf hs (v := .bool y6) rfl rfl rfl (V.pure rfl) (fun a hf => ?_)
                refine S.val hf hs (v := .bool (!y6)) rfl rfl rfl (V.pure rfl) (fun a hf => ?_)
                refine R.nil ?_
                refine X.then_ ?_
                refine C.cond hf (b := !y6) rfl (fun hc => ?_) (fun hc => ?_)
                · replace h := h.1 hc
                  refine wp_seq ?_
                  refine R.list ?_
                  refine S.val hf hs (v := .bool false) rfl rfl rfl (V.pure rfl) (fun a hf => ?_)
                  refine R.nil ?_
                  refine X.then_ ?_
                  refine wp_ret ?_
                  refine X.then_ret ?_
                  refine X.blk_ret ?_
                  refine X.then_ret ?_
                  replace hs := hs.front 5 rfl
                  replace hs := hs.front 5 rfl
                  replace hs := hs.front 5 rfl
                  replace hs := hs.front 5 rfl
                  replace hs := hs.take 4
                  exact L.ret hf (run_results1 Tryz.results46 (ResIs.tmp hf rfl)) ⟨false, t, tA, tC, j, jA, jC, jas, rfl, h, hs⟩
                · replace h := h.2 hc
                  refine wp_skip ?_
                  refine X.then_ ?_
                  refine wp_seq ?_
                  refine R.draw mo (by kernel_rfl) hs ?_
                  refine D.val hf (v := .pointer (some ⟨jg, 0, none⟩)) rfl rfl rfl (V.pure rfl) (fun a hf => ?_)
                  refine D.val hf (v := .pointer (some ⟨jg, 0, none⟩)) rfl rfl rfl (V.pure rfl) (fun a hf => ?_)
                  refine D.val hf (v := .slice jA j.length jC) rfl rfl rfl (V.loadBox 4 rfl rfl rfl Tryz.isAgg36 Tryz.sizeOf36 rfl rfl) (fun a hf => ?_)
                  refine D.val hf (v := .pointer (some ⟨jg, 0, none⟩)) rfl rfl rfl (V.pure rfl) (fun a hf => ?_)
                  refine D.val hf (v := .pointer (some ⟨jg, 0, none⟩)) rfl rfl rfl (V.pure rfl) (fun a hf => ?_)
                  refine D.val hf (v := .slice jA j.length jC) rfl rfl rfl (V.loadBox 4 rfl rfl rfl Tryz.isAgg36 Tryz.sizeOf36 rfl rfl) (fun a hf => ?_)
                  refine D.val hf (v := .int .i64 (j.length : Int)) rfl rfl rfl (V.len rfl rfl Tryz.runUnderlying36) (fun a hf => ?_)
                  refine D.val hf (v := .int .i64 (w64 ((j.length : Int) - 1))) rfl rfl rfl (V.pure rfl) (fun a hf => ?_)
                  obtain ⟨h0x6, x6, hx6, h⟩ := h
                  refine D.val hf (v := elemPtr jA ((w64 ((j.length : Int) - 1)).toNat * 2)) rfl rfl rfl (V.index rfl rfl rfl Tryz.runUnderlying36 Tryz.sizeOf90 (hs.rowsSome 5 rfl hx6) h0x6 (lt_of_get hx6) rfl) (fun a hf => ?_)
                  refine D.val hf (v := elemPtr jA ((w64 ((j.length : Int) - 1)).toNat * 2)) rfl rfl rfl (V.pure rfl) (fun a hf => ?_)
                  refine D.done (fun w hs => ?_)
                  refine X.then_ ?_
                  refine wp_seq ?_
                  refine H.start (S := Sat w0 F0 [hown 3 y5A y5C y5, hown 9 y1A y1C y1, hbox tg 35 [.slice tA t.length tC], hown 41 tA tC t]) mo ?_
                  replace hs := hs.drew
                  refine H.val hf (hs.mask [true, true, true, true, false, false]) (v := elemPtr jA ((w64 ((j.length : Int) - 1)).toNat * 2)) (i := 0) rfl rfl rfl rfl (by kernel_rfl) (by kernel_rfl) (by kernel_rfl) (V.pure rfl) (fun a hf => ?_)
                  refine H.val hf (hs.mask [true, true, true, true, false, false]) (v := elemPtr jA ((w64 ((j.length : Int) - 1)).toNat * 2)) (i := 1) rfl rfl rfl rfl (by kernel_rfl) (by kernel_rfl) (by kernel_rfl) (V.pure rfl) (fun a hf => ?_)
                  refine H.val hf (hs.mask [true, true, true, true, false, false]) (v := elemPtr jA ((w64 ((j.length : Int) - 1)).toNat * 2)) (i := 2) rfl rfl rfl rfl (by kernel_rfl) (by kernel_rfl) (by kernel_rfl) (V.nilCheckEl rfl rfl (hs.rowsSome 5 rfl hx6)) (fun a hf => ?_)
                  refine H.val hf (hs.mask [true, true, true, true, false, false]) (v := elemPtr jA ((w64 ((j.length : Int) - 1)).toNat * 2 + 1)) (i := 3) rfl rfl rfl rfl (by kernel_rfl) (by kernel_rfl) (by kernel_rfl) (V.fieldEl rfl rfl (hs.rowsSome 5 rfl hx6) Tryz.runUnderlying90 rfl Tryz.sizeOf88 rfl rfl) (fun a hf => ?_)
                  refine H.val hf (hs.mask [true, true, true, true, false, false]) (v := .slice y5A y5.length y5C) (i := 5) rfl rfl rfl rfl (by kernel_rfl) (by kernel_rfl) (by kernel_rfl) (V.pure rfl) (fun a hf => ?_)
                  obtain ⟨h0x7, x7, hx7, h⟩ := h
                  refine H.val hf (hs.mask [true, true, true, true, false, false]) (v := elemPtr y5A (0 * 1)) (i := 6) rfl rfl rfl rfl (by kernel_rfl) (by kernel_rfl) (by kernel_rfl) (V.index rfl rfl rfl Tryz.runUnderlying118 Tryz.sizeOf3 (hs.ownSome 0 rfl (lt_of_get hx7)) h0x7 (lt_of_get hx7) rfl) (fun a hf => ?_)
                  refine H.val hf (hs.mask [true, true, true, true, false, false]) (v := .int .i64 x7) (i := 7) rfl rfl rfl rfl (by kernel_rfl) (by kernel_rfl) (by kernel_rfl) (V.loadOwn (off := 0) 0 rfl hx7 rfl rfl rfl Tryz.isAgg3 Tryz.sizeOf3 rfl rfl) (fun a hf => ?_)
                  refine H.val hf (hs.mask [true, true, true, true, false, false]) (v := .slice y5A y5.length y5C) (i := 8) rfl rfl rfl rfl (by kernel_rfl) (by kernel_rfl) (by kernel_rfl) (V.pure rfl) (fun a hf => ?_)
                  obtain ⟨h0x8, x8, hx8, h⟩ := h
                  refine H.val hf (hs.mask [true, true, true, true, false, false]) (v := elemPtr y5A (1 * 1)) (i := 9) rfl rfl rfl rfl (by kernel_rfl) (by kernel_rfl) (by kernel_rfl) (V.index rfl rfl rfl Tryz.runUnderlying118 Tryz.sizeOf3 (hs.ownSome 0 rfl (lt_of_get hx8)) h0x8 (lt_of_get hx8) rfl) (fun a hf => ?_)
                  refine H.val hf (hs.mask [true, true, true, true, false, false]) (v := .int .i64 x8) (i := 10) rfl rfl rfl rfl (by kernel_rfl) (by kernel_rfl) (by kernel_rfl) (V.loadOwn (off := 0) 0 rfl hx8 rfl rfl rfl Tryz.isAgg3 Tryz.sizeOf3 rfl rfl) (fun a hf => ?_)
                  refine H.val hf (hs.mask [true, true, true, true, false, false]) (v := .slice y5A y5.length y5C) (i := 12) rfl rfl rfl rfl (by kernel_rfl) (by kernel_rfl) (by kernel_rfl) (V.pure rfl) (fun a hf => ?_)
                  obtain ⟨h0x9, x9, hx9, h⟩ := h
                  refine H.val hf (hs.mask [true, true, true, true, false, false]) (v := elemPtr y5A (2 * 1)) (i := 13) rfl rfl rfl rfl (by kernel_rfl) (by kernel_rfl) (by kernel_rfl) (V.index rfl rfl rfl Tryz.runUnderlying118 Tryz.sizeOf3 (hs.ownSome 0 rfl (lt_of_get hx9)) h0x9 (lt_of_get hx9) rfl) (fun a hf => ?_)
                  refine H.val hf (hs.mask [true, true, true, true, false, false]) (v := .int .i64 x9) (i := 14) rfl rfl rfl rfl (by kernel_rfl) (by kernel_rfl) (by kernel_rfl) (V.loadOwn (off := 0) 0 rfl hx9 rfl rfl rfl Tryz.isAgg3 Tryz.sizeOf3 rfl rfl) (fun a hf => ?_)
                  refine H.val hf (hs.mask [true, true, true, true, false, false]) (v := .slice y5A y5.length y5C) (i := 15) rfl rfl rfl rfl (by kernel_rfl) (by kernel_rfl) (by kernel_rfl) (V.pure rfl) (fun a hf => ?_)
                  obtain ⟨h0x10, x10, hx10, h⟩ := h
                  refine H.val hf (hs.mask [true, true, true, true, false, false]) (v := elemPtr y5A (3 * 1)) (i := 16) rfl rfl rfl rfl (by kernel_rfl) (by kernel_rfl) (by kernel_rfl) (V.index rfl rfl rfl Tryz.runUnderlying118 Tryz.sizeOf3 (hs.ownSome 0 rfl (lt_of_get hx10)) h0x10 (lt_of_get hx10) rfl) (fun a hf => ?_)
                  refine H.val hf (hs.mask [true, true, true, true, false, false]) (v := .int .i64 x10) (i := 17) rfl rfl rfl rfl (by kernel_rfl) (by kernel_rfl) (by kernel_rfl) (V.loadOwn (off := 0) 0 rfl hx10 rfl rfl rfl Tryz.isAgg3 Tryz.sizeOf3 rfl rfl) (fun a hf => ?_)
                  refine H.val hf (hs.mask [true, true, true, true, false, false]) (v := .slice y1A y1.length y1C) (i := 18) rfl rfl rfl rfl (by kernel_rfl) (by kernel_rfl) (by kernel_rfl) (V.pure rfl) (fun a hf => ?_)
                  obtain ⟨h0x11, x11, hx11, h⟩ := h
                  refine H.val hf (hs.mask [true, true, true, true, false, false]) (v := elemPtr y1A (5 * 1)) (i := 19) rfl rfl rfl rfl (by kernel_rfl) (by kernel_rfl) (by kernel_rfl) (V.index rfl rfl rfl Tryz.runUnderlying74 Tryz.sizeOf9 (hs.ownSome 1 rfl (lt_of_get hx11)) h0x11 (lt_of_get hx11) rfl) (fun a hf => ?_)
                  refine H.val hf (hs.mask [true, true, true, true, false, false]) (v := .string (ba x11)) (i := 20) rfl rfl rfl rfl (by kernel_rfl) (by kernel_rfl) (by kernel_rfl) (V.loadOwn (off := 0) 1 rfl hx11 rfl rfl rfl Tryz.isAgg9 Tryz.sizeOf9 rfl rfl) (fun a hf => ?_)
                  refine H.val hf (hs.mask [true, true, true, true, false, false]) (v := .bool (x11 == [112])) (i := 21) rfl rfl rfl rfl (by kernel_rfl) (by kernel_rfl) (by kernel_rfl) (V.strCmp (x11 == [112]) rfl rfl rfl rfl) (fun a hf => ?_)
                  refine H.each2 (i0 := 4) (i1 := 11) rfl rfl (by kernel_rfl) ?_ ?_
                  · obtain ⟨B1, D1, hrB1⟩ := hs.rowAt 5 rfl hx6
                    refine S.val hf hs (v := .slice B1 x6.Holes.length D1) rfl rfl rfl (V.loadRows (off := 1) 5 rfl hx6 hrB1 rfl rfl rfl Tryz.isAgg88 Tryz.sizeOf88 rfl rfl) (fun a hf => ?_)
                    refine R.nil ?_
                    refine X.then_ ?_
                    refine ⟨(hs.mask [true, true, true, true, false, false]), ?_⟩
                    refine H.one (i := 11) rfl (by kernel_rfl) ?_
                    refine S.val hf hs (v := .agg #[.int .i64 x7, .int .i64 x8]) rfl rfl rfl (V.build (places := #[(0, 1), (1, 1)]) rfl Tryz.zeroValue55 Tryz.runUnderlying55 (by intro w; simp [Tryz.sizeOf3]) rfl rfl) (fun a hf => ?_)
                    refine R.nil ?_
                    refine X.then_ ?_
                    refine ⟨(hs.mask [true, true, true, true, false, false]), ?_⟩
                    refine H.one (i := 22) rfl (by kernel_rfl) ?_
                    refine S.val hf hs (v := .agg #[.int .i64 x7, .int .i64 x8, .int .i64 x9, .int .i64 x10, .bool (x11 == [112])]) rfl rfl rfl (V.build (places := #[(0, 2), (2, 1), (3, 1), (4, 1)]) rfl Tryz.zeroValue92 Tryz.runUnderlying92 (by intro w; simp [Tryz.sizeOf3, Tryz.sizeOf4, Tryz.sizeOf55]) rfl rfl) (fun a hf => ?_)
                    refine R.nil ?_
                    refine X.then_ ?_
                    refine ⟨(hs.mask [true, true, true, true, false, false]), ?_⟩
                    refine H.one (i := 23) rfl (by kernel_rfl) ?_
                    refine S.build1 hf hs rfl rfl rfl (α := Hole) (⟨(⟨x7, x8⟩ : Point), x9, x10, x11 == [112]⟩ : Hole) rfl rfl rfl Tryz.runUnderlying88 Tryz.sizeOf92 Tryz.zeroValue92 rfl (by decide) (fun A5 a w hf hs => ?_)
                    refine R.nil ?_
                    refine X.then_ ?_
                    refine ⟨(hs.mask [false, true, true, true, true, false, false]), ?_⟩
                    refine H.one (i := 24) rfl (by kernel_rfl) ?_
                    replace hs := hs.takeRow 6 rfl hx6 hrB1
                    obtain ⟨hroom, h⟩ := h
                    refine S.appendCells 0 hf hs rfl rfl rfl rfl rfl rfl rfl Tryz.underlying88 info92 rfl hroom ((hs.ownView 1 rfl).some_ (i := 0) (by simp)) (hs.ownView 1 rfl) (fun A6 C3 a w hf hs => ?_)
                    refine R.nil ?_
                    refine X.then_ ?_
                    refine ⟨(hs.mask [false, false, true, true, true, true, false, false]), ?_⟩
                    refine H.val hf (hs.mask [false, false, true, true, true, true, false, false]) (v := elemPtr jA ((w64 ((j.length : Int) - 1)).toNat * 2)) (i := 25) rfl rfl rfl rfl (by kernel_rfl) (by kernel_rfl) (by kernel_rfl) (V.nilCheckEl rfl rfl (hs.rowsSomeX 7 rfl hx6)) (fun a hf => ?_)
                    refine H.val hf (hs.mask [false, false, true, true, true, true, false, false]) (v := elemPtr jA ((w64 ((j.length : Int) - 1)).toNat * 2 + 1)) (i := 26) rfl rfl rfl rfl (by kernel_rfl) (by kernel_rfl) (by kernel_rfl) (V.fieldEl rfl rfl (hs.rowsSomeX 7 rfl hx6) Tryz.runUnderlying90 rfl Tryz.sizeOf88 rfl rfl) (fun a hf => ?_)
                    refine H.one (i := 27) rfl (by kernel_rfl) ?_
                    refine S.putBack (off := 1) 6 hf hs rfl rfl (⟨x6.Tool, (x6.Holes ++ [(⟨(⟨x7, x8⟩ : Point), x9, x10, x11 == [112]⟩ : Hole)])⟩ : Job) [.slice A6 (x6.Holes ++ [(⟨(⟨x7, x8⟩ : Point), x9, x10, x11 == [112]⟩ : Hole)]).length C3] rfl hx6 hrB1 rfl rfl rfl rfl rfl rfl Tryz.sizeOf88 rfl (by decide) rfl rfl (fun a w hf hs => ?_)
                    replace hs := hs.rebox 5 (vs' := [.slice jA (j.set ((w64 ((j.length : Int) - 1)).toNat) (⟨x6.Tool, (x6.Holes ++ [(⟨(⟨x7, x8⟩ : Point), x9, x10, x11 == [112]⟩ : Hole)])⟩ : Job)).length jC]) rfl (congrArg (fun n => [Value.slice jA n jC]) List.length_set.symm)
                    replace hf := hf.tell 122 (v := .slice jA (j.set ((w64 ((j.length : Int) - 1)).toNat) (⟨x6.Tool, (x6.Holes ++ [(⟨(⟨x7, x8⟩ : Point), x9, x10, x11 == [112]⟩ : Hole)])⟩ : Job)).length jC) ((hf.get 122 (.slice jA j.length jC) rfl).trans (congrArg (fun n => Value.slice jA n jC) List.length_set.symm))
                    replace hf := hf.tell 125 (v := .slice jA (j.set ((w64 ((j.length : Int) - 1)).toNat) (⟨x6.Tool, (x6.Holes ++ [(⟨(⟨x7, x8⟩ : Point), x9, x10, x11 == [112]⟩ : Hole)])⟩ : Job)).length jC) ((hf.get 125 (.slice jA j.length jC) rfl).trans (congrArg (fun n => Value.slice jA n jC) List.length_set.symm))
                    have hx1 : (j.set ((w64 ((j.length : Int) - 1)).toNat) (⟨x6.Tool, (x6.Holes ++ [(⟨(⟨x7, x8⟩ : Point), x9, x10, x11 == [112]⟩ : Hole)])⟩ : Job))[(w64 ((j.length : Int) - 1)).toNat]? = some (⟨x6.Tool, (x6.Holes ++ [(⟨(⟨x7, x8⟩ : Point), x9, x10, x11 == [112]⟩ : Hole)])⟩ : Job) := List.getElem?_set_self (lt_of_get hx6)
                    have hr1 : (jas.set ((w64 ((j.length : Int) - 1)).toNat) (A6, C3))[(w64 ((j.length : Int) - 1)).toNat]? = some (A6, C3) := List.getElem?_set_self (lt_of_get hrB1)
                    refine R.nil ?_
                    refine X.then_ ?_
                    refine ⟨(hs.mask [false, true, true, true, true, false, false]), ?_⟩
                    refine H.done (by kernel_rfl) ?_
                    refine X.then_ ?_
                    refine wp_seq ?_
                    refine R.list ?_
                    refine S.val hf hs (v := .bool true) rfl rfl rfl (V.pure rfl) (fun a hf => ?_)
                    refine R.nil ?_
                    refine X.then_ ?_
                    refine wp_ret ?_
                    refine X.blk_ret ?_
                    refine X.then_ret ?_
                    replace hs := hs.front 6 rfl
                    replace hs := hs.front 6 rfl
                    replace hs := hs.front 6 rfl
                    replace hs := hs.front 6 rfl
                    replace hs := hs.take 4
                    exact L.ret hf (run_results1 Tryz.results46 (ResIs.tmp hf rfl)) ⟨true, t, tA, tC, (j.set ((w64 ((j.length : Int) - 1)).toNat) (⟨x6.Tool, (x6.Holes ++ [(⟨(⟨x7, x8⟩ : Point), x9, x10, x11 == [112]⟩ : Hole)])⟩ : Job)), jA, jC, (jas.set ((w64 ((j.length : Int) - 1)).toNat) (A6, C3)), rfl, h, hs⟩
                  · refine S.val hf hs (v := .agg #[.int .i64 x7, .int .i64 x8]) rfl rfl rfl (V.build (places := #[(0, 1), (1, 1)]) rfl Tryz.zeroValue55 Tryz.runUnderlying55 (by intro w; simp [Tryz.sizeOf3]) rfl rfl) (fun a hf => ?_)
                    refine R.nil ?_
                    refine X.then_ ?_
                    refine ⟨(hs.mask [true, true, true, true, false, false]), ?_⟩
                    refine H.each2 (i0 := 4) (i1 := 22) rfl rfl (by kernel_rfl) ?_ ?_
                    · obtain ⟨B1, D1, hrB1⟩ := hs.rowAt 5 rfl hx6
                      refine S.val hf hs (v := .slice B1 x6.Holes.length D1) rfl rfl rfl (V.loadRows (off := 1) 5 rfl hx6 hrB1 rfl rfl rfl Tryz.isAgg88 Tryz.sizeOf88 rfl rfl) (fun a hf => ?_)
                      refine R.nil ?_
                      refine X.then_ ?_
                      refine ⟨(hs.mask [true, true, true, true, false, false]), ?_⟩
                      refine H.one (i := 22) rfl (by kernel_rfl) ?_
                      refine S.val hf hs (v := .agg #[.int .i64 x7, .int .i64 x8, .int .i64 x9, .int .i64 x10, .bool (x11 == [112])]) rfl rfl rfl (V.build (places := #[(0, 2), (2, 1), (3, 1), (4, 1)]) rfl Tryz.zeroValue92 Tryz.runUnderlying92 (by intro w; simp [Tryz.sizeOf3, Tryz.sizeOf4, Tryz.sizeOf55]) rfl rfl) (fun a hf => ?_)
                      refine R.nil ?_
                      refine X.then_ ?_
                      refine ⟨(hs.mask [true, true, true, true, false, false]), ?_⟩
                      refine H.one (i := 23) rfl (by kernel_rfl) ?_
                      refine S.build1 hf hs rfl rfl rfl (α := Hole) (⟨(⟨x7, x8⟩ : Point), x9, x10, x11 == [112]⟩ : Hole) rfl rfl rfl Tryz.runUnderlying88 Tryz.sizeOf92 Tryz.zeroValue92 rfl (by decide) (fun A5 a w hf hs => ?_)
                      refine R.nil ?_
                      refine X.then_ ?_
                      refine ⟨(hs.mask [false, true, true, true, true, false, false]), ?_⟩
                      refine H.one (i := 24) rfl (by kernel_rfl) ?_
                      replace hs := hs.takeRow 6 rfl hx6 hrB1
                      obtain ⟨hroom, h⟩ := h
                      refine S.appendCells 0 hf hs rfl rfl rfl rfl rfl rfl rfl Tryz.underlying88 info92 rfl hroom ((hs.ownView 1 rfl).some_ (i := 0) (by simp)) (hs.ownView 1 rfl) (fun A6 C3 a w hf hs => ?_)
                      refine R.nil ?_
                      refine X.then_ ?_
                      refine ⟨(hs.mask [false, false, true, true, true, true, false, false]), ?_⟩
                      refine H.val hf (hs.mask [false, false, true, true, true, true, false, false]) (v := elemPtr jA ((w64 ((j.length : Int) - 1)).toNat * 2)) (i := 25) rfl rfl rfl rfl (by kernel_rfl) (by kernel_rfl) (by kernel_rfl) (V.nilCheckEl rfl rfl (hs.rowsSomeX 7 rfl hx6)) (fun a hf => ?_)
                      refine H.val hf (hs.mask [false, false, true, true, true, true, false, false]) (v := elemPtr jA ((w64 ((j.length : Int) - 1)).toNat * 2 + 1)) (i := 26) rfl rfl rfl rfl (by kernel_rfl) (by kernel_rfl) (by kernel_rfl) (V.fieldEl rfl rfl (hs.rowsSomeX 7 rfl hx6) Tryz.runUnderlying90 rfl Tryz.sizeOf88 rfl rfl) (fun a hf => ?_)
                      refine H.one (i := 27) rfl (by kernel_rfl) ?_
                      refine S.putBack (off := 1) 6 hf hs rfl rfl (⟨x6.Tool, (x6.Holes ++ [(⟨(⟨x7, x8⟩ : Point), x9, x10, x11 == [112]⟩ : Hole)])⟩ : Job) [.slice A6 (x6.Holes ++ [(⟨(⟨x7, x8⟩ : Point), x9, x10, x11 == [112]⟩ : Hole)]).length C3] rfl hx6 hrB1 rfl rfl rfl rfl rfl rfl Tryz.sizeOf88 rfl (by decide) rfl rfl (fun a w hf hs => ?_)
                      replace hs := hs.rebox 5 (vs' := [.slice jA (j.set ((w64 ((j.length : Int) - 1)).toNat) (⟨x6.Tool, (x6.Holes ++ [(⟨(⟨x7, x8⟩ : Point), x9, x10, x11 == [112]⟩ : Hole)])⟩ : Job)).length jC]) rfl (congrArg (fun n => [Value.slice jA n jC]) List.length_set.symm)
                      replace hf := hf.tell 122 (v := .slice jA (j.set ((w64 ((j.length : Int) - 1)).toNat) (⟨x6.Tool, (x6.Holes ++ [(⟨(⟨x7, x8⟩ : Point), x9, x10, x11 == [112]⟩ : Hole)])⟩ : Job)).length jC) ((hf.get 122 (.slice jA j.length jC) rfl).trans (congrArg (fun n => Value.slice jA n jC) List.length_set.symm))
                      replace hf := hf.tell 125 (v := .slice jA (j.set ((w64 ((j.length : Int) - 1)).toNat) (⟨x6.Tool, (x6.Holes ++ [(⟨(⟨x7, x8⟩ : Point), x9, x10, x11 == [112]⟩ : Hole)])⟩ : Job)).length jC) ((hf.get 125 (.slice jA j.length jC) rfl).trans (congrArg (fun n => Value.slice jA n jC) List.length_set.symm))
                      have hx1 : (j.set ((w64 ((j.length : Int) - 1)).toNat) (⟨x6.Tool, (x6.Holes ++ [(⟨(⟨x7, x8⟩ : Point), x9, x10, x11 == [112]⟩ : Hole)])⟩ : Job))[(w64 ((j.length : Int) - 1)).toNat]? = some (⟨x6.Tool, (x6.Holes ++ [(⟨(⟨x7, x8⟩ : Point), x9, x10, x11 == [112]⟩ : Hole)])⟩ : Job) := List.getElem?_set_self (lt_of_get hx6)
                      have hr1 : (jas.set ((w64 ((j.length : Int) - 1)).toNat) (A6, C3))[(w64 ((j.length : Int) - 1)).toNat]? = some (A6, C3) := List.getElem?_set_self (lt_of_get hrB1)
                      refine R.nil ?_
                      refine X.then_ ?_
                      refine ⟨(hs.mask [false, true, true, true, true, false, false]), ?_⟩
                      refine H.done (by kernel_rfl) ?_
                      refine X.then_ ?_
                      refine wp_seq ?_
                      refine R.list ?_
                      refine S.val hf hs (v := .bool true) rfl rfl rfl (V.pure rfl) (fun a hf => ?_)
                      refine R.nil ?_
                      refine X.then_ ?_
                      refine wp_ret ?_
                      refine X.blk_ret ?_
                      refine X.then_ret ?_
                      replace hs := hs.front 6 rfl
                      replace hs := hs.front 6 rfl
                      replace hs := hs.front 6 rfl
                      replace hs := hs.front 6 rfl
                      replace hs := hs.take 4
                      exact L.ret hf (run_results1 Tryz.results46 (ResIs.tmp hf rfl)) ⟨true, t, tA, tC, (j.set ((w64 ((j.length : Int) - 1)).toNat) (⟨x6.Tool, (x6.Holes ++ [(⟨(⟨x7, x8⟩ : Point), x9, x10, x11 == [112]⟩ : Hole)])⟩ : Job)), jA, jC, (jas.set ((w64 ((j.length : Int) - 1)).toNat) (A6, C3)), rfl, h, hs⟩
                    · refine S.val hf hs (v := .agg #[.int .i64 x7, .int .i64 x8, .int .i64 x9, .int .i64 x10, .bool (x11 == [112])]) rfl rfl rfl (V.build (places := #[(0, 2), (2, 1), (3, 1), (4, 1)]) rfl Tryz.zeroValue92 Tryz.runUnderlying92 (by intro w; simp [Tryz.sizeOf3, Tryz.sizeOf4, Tryz.sizeOf55]) rfl rfl) (fun a hf => ?_)
                      refine R.nil ?_
                      refine X.then_ ?_
                      refine ⟨(hs.mask [true, true, true, true, false, false]), ?_⟩
                      refine H.each2 (i0 := 4) (i1 := 23) rfl rfl (by kernel_rfl) ?_ ?_
                      · obtain ⟨B1, D1, hrB1⟩ := hs.rowAt 5 rfl hx6
                        refine S.val hf hs (v := .slice B1 x6.Holes.length D1) rfl rfl rfl (V.loadRows (off := 1) 5 rfl hx6 hrB1 rfl rfl rfl Tryz.isAgg88 Tryz.sizeOf88 rfl rfl) (fun a hf => ?_)
                        refine R.nil ?_
                        refine X.then_ ?_
                        refine ⟨(hs.mask [true, true, true, true, false, false]), ?_⟩
                        refine H.one (i := 23) rfl (by kernel_rfl) ?_
                        refine S.build1 hf hs rfl rfl rfl (α := Hole) (⟨(⟨x7, x8⟩ : Point), x9, x10, x11 == [112]⟩ : Hole) rfl rfl rfl Tryz.runUnderlying88 Tryz.sizeOf92 Tryz.zeroValue92 rfl (by decide) (fun A5 a w hf hs => ?_)
                        refine R.nil ?_
                        refine X.then_ ?_
                        refine ⟨(hs.mask [false, true, true, true, true, false, false]), ?_⟩
                        refine H.one (i := 24) rfl (by kernel_rfl) ?_
                        replace hs := hs.takeRow 6 rfl hx6 hrB1
                        obtain ⟨hroom, h⟩ := h
                        refine S.appendCells 0 hf hs rfl rfl rfl rfl rfl rfl rfl Tryz.underlying88 info92 rfl hroom ((hs.ownView 1 rfl).some_ (i := 0) (by simp)) (hs.ownView 1 rfl) (fun A6 C3 a w hf hs => ?_)
                        refine R.nil ?_
                        refine X.then_ ?_
                        refine ⟨(hs.mask [false, false, true, true, true, true, false, false]), ?_⟩
                        refine H.val hf (hs.mask [false, false, true, true, true, true, false, false]) (v := elemPtr jA ((w64 ((j.length : Int) - 1)).toNat * 2)) (i := 25) rfl rfl rfl rfl (by kernel_rfl) (by kernel_rfl) (by kernel_rfl) (V.nilCheckEl rfl rfl (hs.rowsSomeX 7 rfl hx6)) (fun a hf => ?_)
                        refine H.val hf (hs.mask [false, false, true, true, true, true, false, false]) (v := elemPtr jA ((w64 ((j.length : Int) - 1)).toNat * 2 + 1)) (i := 26) rfl rfl rfl rfl (by kernel_rfl) (by kernel_rfl) (by kernel_rfl) (V.fieldEl rfl rfl (hs.rowsSomeX 7 rfl hx6) Tryz.runUnderlying90 rfl Tryz.sizeOf88 rfl rfl) (fun a hf => ?_)
                        refine H.one (i := 27) rfl (by kernel_rfl) ?_
                        refine S.putBack (off := 1) 6 hf hs rfl rfl (⟨x6.Tool, (x6.Holes ++ [(⟨(⟨x7, x8⟩ : Point), x9, x10, x11 == [112]⟩ : Hole)])⟩ : Job) [.slice A6 (x6.Holes ++ [(⟨(⟨x7, x8⟩ : Point), x9, x10, x11 == [112]⟩ : Hole)]).length C3] rfl hx6 hrB1 rfl rfl rfl rfl rfl rfl Tryz.sizeOf88 rfl (by decide) rfl rfl (fun a w hf hs => ?_)
                        replace hs := hs.rebox 5 (vs' := [.slice jA (j.set ((w64 ((j.length : Int) - 1)).toNat) (⟨x6.Tool, (x6.Holes ++ [(⟨(⟨x7, x8⟩ : Point), x9, x10, x11 == [112]⟩ : Hole)])⟩ : Job)).length jC]) rfl (congrArg (fun n => [Value.slice jA n jC]) List.length_set.symm)
                        replace hf := hf.tell 122 (v := .slice jA (j.set ((w64 ((j.length : Int) - 1)).toNat) (⟨x6.Tool, (x6.Holes ++ [(⟨(⟨x7, x8⟩ : Point), x9, x10, x11 == [112]⟩ : Hole)])⟩ : Job)).length jC) ((hf.get 122 (.slice jA j.length jC) rfl).trans (congrArg (fun n => Value.slice jA n jC) List.length_set.symm))
                        replace hf := hf.tell 125 (v := .slice jA (j.set ((w64 ((j.length : Int) - 1)).toNat) (⟨x6.Tool, (x6.Holes ++ [(⟨(⟨x7, x8⟩ : Point), x9, x10, x11 == [112]⟩ : Hole)])⟩ : Job)).length jC) ((hf.get 125 (.slice jA j.length jC) rfl).trans (congrArg (fun n => Value.slice jA n jC) List.length_set.symm))
                        have hx1 : (j.set ((w64 ((j.length : Int) - 1)).toNat) (⟨x6.Tool, (x6.Holes ++ [(⟨(⟨x7, x8⟩ : Point), x9, x10, x11 == [112]⟩ : Hole)])⟩ : Job))[(w64 ((j.length : Int) - 1)).toNat]? = some (⟨x6.Tool, (x6.Holes ++ [(⟨(⟨x7, x8⟩ : Point), x9, x10, x11 == [112]⟩ : Hole)])⟩ : Job) := List.getElem?_set_self (lt_of_get hx6)
                        have hr1 : (jas.set ((w64 ((j.length : Int) - 1)).toNat) (A6, C3))[(w64 ((j.length : Int) - 1)).toNat]? = some (A6, C3) := List.getElem?_set_self (lt_of_get hrB1)
                        refine R.nil ?_
                        refine X.then_ ?_
                        refine ⟨(hs.mask [false, true, true, true, true, false, false]), ?_⟩
                        refine H.done (by kernel_rfl) ?_
                        refine X.then_ ?_
                        refine wp_seq ?_
                        refine R.list ?_
                        refine S.val hf hs (v := .bool true) rfl rfl rfl (V.pure rfl) (fun a hf => ?_)
                        refine R.nil ?_
                        refine X.then_ ?_
                        refine wp_ret ?_
                        refine X.blk_ret ?_
                        refine X.then_ret ?_
                        replace hs := hs.front 6 rfl
                        replace hs := hs.front 6 rfl
                        replace hs := hs.front 6 rfl
                        replace hs := hs.front 6 rfl
                        replace hs := hs.take 4
                        exact L.ret hf (run_results1 Tryz.results46 (ResIs.tmp hf rfl)) ⟨true, t, tA, tC, (j.set ((w64 ((j.length : Int) - 1)).toNat) (⟨x6.Tool, (x6.Holes ++ [(⟨(⟨x7, x8⟩ : Point), x9, x10, x11 == [112]⟩ : Hole)])⟩ : Job)), jA, jC, (jas.set ((w64 ((j.length : Int) - 1)).toNat) (A6, C3)), rfl, h, hs⟩
                      · refine S.build1 hf hs rfl rfl rfl (α := Hole) (⟨(⟨x7, x8⟩ : Point), x9, x10, x11 == [112]⟩ : Hole) rfl rfl rfl Tryz.runUnderlying88 Tryz.sizeOf92 Tryz.zeroValue92 rfl (by decide) (fun A5 a w hf hs => ?_)
                        refine R.nil ?_
                        refine X.then_ ?_
                        refine ⟨(hs.mask [false, true, true, true, true, false, false]), ?_⟩
                        refine H.one (i := 4) rfl (by kernel_rfl) ?_
                        obtain ⟨B1, D1, hrB1⟩ := hs.rowAt 6 rfl hx6
                        refine S.val hf hs (v := .slice B1 x6.Holes.length D1) rfl rfl rfl (V.loadRows (off := 1) 6 rfl hx6 hrB1 rfl rfl rfl Tryz.isAgg88 Tryz.sizeOf88 rfl rfl) (fun a hf => ?_)
                        refine R.nil ?_
                        refine X.then_ ?_
                        refine ⟨(hs.mask [false, true, true, true, true, false, false]), ?_⟩
                        refine H.one (i := 24) rfl (by kernel_rfl) ?_
                        replace hs := hs.takeRow 6 rfl hx6 hrB1
                        obtain ⟨hroom, h⟩ := h
                        refine S.appendCells 0 hf hs rfl rfl rfl rfl rfl rfl rfl Tryz.underlying88 info92 rfl hroom ((hs.ownView 1 rfl).some_ (i := 0) (by simp)) (hs.ownView 1 rfl) (fun A6 C3 a w hf hs => ?_)
                        refine R.nil ?_
                        refine X.then_ ?_
                        refine ⟨(hs.mask [false, false, true, true, true, true, false, false]), ?_⟩
                        refine H.val hf (hs.mask [false, false, true, true, true, true, false, false]) (v := elemPtr jA ((w64 ((j.length : Int) - 1)).toNat * 2)) (i := 25) rfl rfl rfl rfl (by kernel_rfl) (by kernel_rfl) (by kernel_rfl) (V.nilCheckEl rfl rfl (hs.rowsSomeX 7 rfl hx6)) (fun a hf => ?_)
                        refine H.val hf (hs.mask [false, false, true, true, true, true, false, false]) (v := elemPtr jA ((w64 ((j.length : Int) - 1)).toNat * 2 + 1)) (i := 26) rfl rfl rfl rfl (by kernel_rfl) (by kernel_rfl) (by kernel_rfl) (V.fieldEl rfl rfl (hs.rowsSomeX 7 rfl hx6) Tryz.runUnderlying90 rfl Tryz.sizeOf88 rfl rfl) (fun a hf => ?_)
                        refine H.one (i := 27) rfl (by kernel_rfl) ?_
                        refine S.putBack (off := 1) 6 hf hs rfl rfl (⟨x6.Tool, (x6.Holes ++ [(⟨(⟨x7, x8⟩ : Point), x9, x10, x11 == [112]⟩ : Hole)])⟩ : Job) [.slice A6 (x6.Holes ++ [(⟨(⟨x7, x8⟩ : Point), x9, x10, x11 == [112]⟩ : Hole)]).length C3] rfl hx6 hrB1 rfl rfl rfl rfl rfl rfl Tryz.sizeOf88 rfl (by decide) rfl rfl (fun a w hf hs => ?_)
                        replace hs := hs.rebox 5 (vs' := [.slice jA (j.set ((w64 ((j.length : Int) - 1)).toNat) (⟨x6.Tool, (x6.Holes ++ [(⟨(⟨x7, x8⟩ : Point), x9, x10, x11 == [112]⟩ : Hole)])⟩ : Job)).length jC]) rfl (congrArg (fun n => [Value.slice jA n jC]) List.length_set.symm)
                        replace hf := hf.tell 122 (v := .slice jA (j.set ((w64 ((j.length : Int) - 1)).toNat) (⟨x6.Tool, (x6.Holes ++ [(⟨(⟨x7, x8⟩ : Point), x9, x10, x11 == [112]⟩ : Hole)])⟩ : Job)).length jC) ((hf.get 122 (.slice jA j.length jC) rfl).trans (congrArg (fun n => Value.slice jA n jC) List.length_set.symm))
                        replace hf := hf.tell 125 (v := .slice jA (j.set ((w64 ((j.length : Int) - 1)).toNat) (⟨x6.Tool, (x6.Holes ++ [(⟨(⟨x7, x8⟩ : Point), x9, x10, x11 == [112]⟩ : Hole)])⟩ : Job)).length jC) ((hf.get 125 (.slice jA j.length jC) rfl).trans (congrArg (fun n => Value.slice jA n jC) List.length_set.symm))
                        have hx1 : (j.set ((w64 ((j.length : Int) - 1)).toNat) (⟨x6.Tool, (x6.Holes ++ [(⟨(⟨x7, x8⟩ : Point), x9, x10, x11 == [112]⟩ : Hole)])⟩ : Job))[(w64 ((j.length : Int) - 1)).toNat]? = some (⟨x6.Tool, (x6.Holes ++ [(⟨(⟨x7, x8⟩ : Point), x9, x10, x11 == [112]⟩ : Hole)])⟩ : Job) := List.getElem?_set_self (lt_of_get hx6)
                        have hr1 : (jas.set ((w64 ((j.length : Int) - 1)).toNat) (A6, C3))[(w64 ((j.length : Int) - 1)).toNat]? = some (A6, C3) := List.getElem?_set_self (lt_of_get hrB1)
                        refine R.nil ?_
                        refine X.then_ ?_
                        refine ⟨(hs.mask [false, true, true, true, true, false, false]), ?_⟩
                        refine H.done (by kernel_rfl) ?_
                        refine X.then_ ?_
                        refine wp_seq ?_
                        refine R.list ?_
                        refine S.val hf hs (v := .bool true) rfl rfl rfl (V.pure rfl) (fun a hf => ?_)
                        refine R.nil ?_
                        refine X.then_ ?_
                        refine wp_ret ?_
                        refine X.blk_ret ?_
                        refine X.then_ret ?_
                        replace hs := hs.front 6 rfl
                        replace hs := hs.front 6 rfl
                        replace hs := hs.front 6 rfl
                        replace hs := hs.front 6 rfl
                        replace hs := hs.take 4
                        exact L.ret hf (run_results1 Tryz.results46 (ResIs.tmp hf rfl)) ⟨true, t, tA, tC, (j.set ((w64 ((j.length : Int) - 1)).toNat) (⟨x6.Tool, (x6.Holes ++ [(⟨(⟨x7, x8⟩ : Point), x9, x10, x11 == [112]⟩ : Hole)])⟩ : Job)), jA, jC, (jas.set ((w64 ((j.length : Int) - 1)).toNat) (A6, C3)), rfl, h, hs⟩
              · replace h := h.2 hc
                refine wp_skip ?_
                refine X.blk ?_
                refine X.then_ ?_
                refine wp_seq ?_
                refine R.list ?_
                refine S.val hf hs (v := .bool false) rfl rfl rfl (V.pure rfl) (fun a hf => ?_)
                refine R.nil ?_
                refine X.then_ ?_
                refine wp_ret ?_
                replace hs := hs.front 4 rfl
                replace hs := hs.front 4 rfl
                replace hs := hs.front 4 rfl
                replace hs := hs.front 4 rfl
                replace hs := hs.take 4
                exact L.ret hf (run_results1 Tryz.results46 (ResIs.tmp hf rfl)) ⟨false, t, tA, tC, j, jA, jC, jas, rfl, h, hs⟩
            · skip
              refine R.list ?_
              refine S.val hf hs (v := .slice y1A y1.length y1C) rfl rfl rfl (V.pure rfl) (fun a hf => ?_)
              obtain ⟨h0x12, x12, hx12, h⟩ := h
              refine S.val hf hs (v := elemPtr y1A (0 * 1)) rfl rfl rfl (V.index rfl rfl rfl Tryz.runUnderlying74 Tryz.sizeOf9 (hs.ownSome 0 rfl (lt_of_get hx12)) h0x12 (lt_of_get hx12) rfl) (fun a hf => ?_)
              refine S.val hf hs (v := .string (ba x12)) rfl rfl rfl (V.loadOwn (off := 0) 0 rfl hx12 rfl rfl rfl Tryz.isAgg9 Tryz.sizeOf9 rfl rfl) (fun a hf => ?_)
              refine S.val hf hs (v := .bool (x12 == [104, 111, 108, 101])) rfl rfl rfl (V.strCmp (x12 == [104, 111, 108, 101]) rfl rfl rfl rfl) (fun a hf => ?_)
              refine S.split hf hs (b := x12 == [104, 111, 108, 101]) rfl rfl rfl (V.pure rfl) (fun hc a hf => ?_) (fun hc a hf => ?_)
              · replace h := h.1 hc
                refine S.val hf hs (v := .slice y1A y1.length y1C) rfl rfl rfl (V.pure rfl) (fun a hf => ?_)
                refine S.val hf hs (v := .int .i64 (y1.length : Int)) rfl rfl rfl (V.len rfl rfl Tryz.runUnderlying74) (fun a hf => ?_)
                refine S.val hf hs (v := .bool ((y1.length : Int) == 6)) rfl rfl rfl (V.pure rfl) (fun a hf => ?_)
                refine S.val hf hs (v := .bool ((y1.length : Int) == 6)) rfl rfl rfl (V.pure rfl) (fun a hf => ?_)
                refine S.split hf hs (b := (y1.length : Int) == 6) rfl rfl rfl (V.pure rfl) (fun hc a hf => ?_) (fun hc a hf => ?_)
                · replace h := h.1 hc
                  refine S.val hf hs (v := .pointer (some ⟨jg, 0, none⟩)) rfl rfl rfl (V.pure rfl) (fun a hf => ?_)
                  refine S.val hf hs (v := .pointer (some ⟨jg, 0, none⟩)) rfl rfl rfl (V.pure rfl) (fun a hf => ?_)
                  refine S.val hf hs (v := .slice jA j.length jC) rfl rfl rfl (V.loadBox 3 rfl rfl rfl Tryz.isAgg36 Tryz.sizeOf36 rfl rfl) (fun a hf => ?_)
                  refine S.val hf hs (v := .int .i64 (j.length : Int)) rfl rfl rfl (V.len rfl rfl Tryz.runUnderlying36) (fun a hf => ?_)
                  refine S.val hf hs (v := .bool (decide ((j.length : Int) > 0))) rfl rfl rfl (V.pure rfl) (fun a hf => ?_)
                  refine S.val hf hs (v := .bool (decide ((j.length : Int) > 0))) rfl rfl rfl (V.pure rfl) (fun a hf => ?_)
                  refine S.split hf hs (b := decide ((j.length : Int) > 0)) rfl rfl rfl (V.pure rfl) (fun hc a hf => ?_) (fun hc a hf => ?_)
                  · replace h := h.1 hc
                    refine S.val hf hs (v := .slice y1A y1.length y1C) rfl rfl rfl (V.pure rfl) (fun a hf => ?_)
                    obtain ⟨h0x13, x13, hx13, h⟩ := h
                    refine S.val hf hs (v := elemPtr y1A (5 * 1)) rfl rfl rfl (V.index rfl rfl rfl Tryz.runUnderlying74 Tryz.sizeOf9 (hs.ownSome 0 rfl (lt_of_get hx13)) h0x13 (lt_of_get hx13) rfl) (fun a hf => ?_)
                    refine S.val hf hs (v := .string (ba x13)) rfl rfl rfl (V.loadOwn (off := 0) 0 rfl hx13 rfl rfl rfl Tryz.isAgg9 Tryz.sizeOf9 rfl rfl) (fun a hf => ?_)
                    refine S.val hf hs (v := .bool (x13 == [112])) rfl rfl rfl (V.strCmp (x13 == [112]) rfl rfl rfl rfl) (fun a hf => ?_)
                    refine S.split hf hs (b := x13 == [112]) rfl rfl rfl (V.pure rfl) (fun hc a hf => ?_) (fun hc a hf => ?_)
                    · replace h := h.1 hc
                      refine S.skip hf rfl rfl rfl (fun a hf => ?_)
                      refine S.skip hf rfl rfl rfl (fun a hf => ?_)
                      refine S.skip hf rfl rfl rfl (fun a hf => ?_)
                      refine S.skip hf rfl rfl rfl (fun a hf => ?_)
                      refine S.val hf hs (v := .bool true) rfl rfl rfl (V.pure rfl) (fun a hf => ?_)
                      refine S.val hf hs (v := .bool true) rfl rfl rfl (V.pure rfl) (fun a hf => ?_)
                      refine S.val hf hs (v := .bool true) rfl rfl rfl (V.pure rfl) (fun a hf => ?_)
                      refine R.nil ?_
                      refine X.then_ ?_
                      exact ⟨true, h, (((hf.nil.cons (hf.get 83 _ rfl)).cons (hf.get 7 _ rfl)).cons (hf.get 1 _ rfl)), hs⟩
                    · replace h := h.2 hc
                      refine S.val hf hs (v := .slice y1A y1.length y1C) rfl rfl rfl (V.pure rfl) (fun a hf => ?_)
                      refine S.val hf hs (v := elemPtr y1A (5 * 1)) rfl rfl rfl (V.index rfl rfl rfl Tryz.runUnderlying74 Tryz.sizeOf9 (hs.ownSome 0 rfl (lt_of_get hx13)) h0x13 (lt_of_get hx13) rfl) (fun a hf => ?_)
                      refine S.val hf hs (v := .string (ba x13)) rfl rfl rfl (V.loadOwn (off := 0) 0 rfl hx13 rfl rfl rfl Tryz.isAgg9 Tryz.sizeOf9 rfl rfl) (fun a hf => ?_)
                      refine S.val hf hs (v := .bool (x13 == [45])) rfl rfl rfl (V.strCmp (x13 == [45]) rfl rfl rfl rfl) (fun a hf => ?_)
                      refine S.val hf hs (v := .bool (x13 == [45])) rfl rfl rfl (V.pure rfl) (fun a hf => ?_)
                      refine S.val hf hs (v := .bool (x13 == [45])) rfl rfl rfl (V.pure rfl) (fun a hf => ?_)
                      refine S.val hf hs (v := .bool (x13 == [45])) rfl rfl rfl (V.pure rfl) (fun a hf => ?_)
                      refine R.nil ?_
                      refine X.then_ ?_
                      exact ⟨(x13 == [45]), h, (((hf.nil.cons (hf.get 83 _ rfl)).cons (hf.get 7 _ rfl)).cons (hf.get 1 _ rfl)), hs⟩
                  · replace h := h.2 hc
                    refine S.skip hf rfl rfl rfl (fun a hf => ?_)
                    refine S.skip hf rfl rfl rfl (fun a hf => ?_)
                    refine S.skip hf rfl rfl rfl (fun a hf => ?_)
                    refine S.skip hf rfl rfl rfl (fun a hf => ?_)
                    refine S.skip hf rfl rfl rfl (fun a hf => ?_)
                    refine S.skip hf rfl rfl rfl (fun a hf => ?_)
                    refine S.skip hf rfl rfl rfl (fun a hf => ?_)
                    refine S.skip hf rfl rfl rfl (fun a hf => ?_)
                    refine S.skip hf rfl rfl rfl (fun a hf => ?_)
                    refine S.skip hf rfl rfl rfl (fun a hf => ?_)
                    refine S.val hf hs (v := .bool false) rfl rfl rfl (V.pure rfl) (fun a hf => ?_)
                    refine S.val hf hs (v := .bool false) rfl rfl rfl (V.pure rfl) (fun a hf => ?_)
                    refine R.nil ?_
                    refine X.then_ ?_
                    exact ⟨false, h, (((hf.nil.cons (hf.get 83 _ rfl)).cons (hf.get 7 _ rfl)).cons (hf.get 1 _ rfl)), hs⟩
                · replace h := h.2 hc
                  refine S.skip hf rfl rfl rfl (fun a hf => ?_)
                  refine S.skip hf rfl rfl rfl (fun a hf => ?_)
                  refine S.skip hf rfl rfl rfl (fun a hf => ?_)
                  refine S.skip hf rfl rfl rfl (fun a hf => ?_)
                  refine S.skip hf rfl rfl rfl (fun a hf => ?_)
                  refine S.val hf hs (v := .bool false) rfl rfl rfl (V.pure rfl) (fun a hf => ?_)
                  refine S.val hf hs (v := .bool false) rfl rfl rfl (V.pure rfl) (fun a hf => ?_)
                  refine S.skip hf rfl rfl rfl (fun a hf => ?_)
                  refine S.skip hf rfl rfl rfl (fun a hf => ?_)
                  refine S.skip hf rfl rfl rfl (fun a hf => ?_)
                  refine S.skip hf rfl rfl rfl (fun a hf => ?_)
                  refine S.skip hf rfl rfl rfl (fun a hf => ?_)
                  refine S.skip hf rfl rfl rfl (fun a hf => ?_)
                  refine S.skip hf rfl rfl rfl (fun a hf => ?_)
                  refine S.skip hf rfl rfl rfl (fun a hf => ?_)
                  refine S.skip hf rfl rfl rfl (fun a hf => ?_)
                  refine S.skip hf rfl rfl rfl (fun a hf => ?_)
                  refine S.val hf hs (v := .bool false) rfl rfl rfl (V.pure rfl) (fun a hf => ?_)
                  refine S.val hf hs (v := .bool false) rfl rfl rfl (V.pure rfl) (fun a hf => ?_)
                  refine R.nil ?_
                  refine X.then_ ?_
                  exact ⟨false, h, (((hf.nil.cons (hf.get 83 _ rfl)).cons (hf.get 7 _ rfl)).cons (hf.get 1 _ rfl)), hs⟩
              · replace h := h.2 hc
                refine S.skip hf rfl rfl rfl (fun a hf => ?_)
                refine S.skip hf rfl rfl rfl (fun a hf => ?_)
                refine S.skip hf rfl rfl rfl (fun a hf => ?_)
                refine S.val hf hs (v := .bool false) rfl rfl rfl (V.pure rfl) (fun a hf => ?_)
                refine S.val hf hs (v := .bool false) rfl rfl rfl (V.pure rfl) (fun a hf => ?_)
                refine S.skip hf rfl rfl rfl (fun a hf => ?_)
                refine S.skip hf rfl rfl rfl (fun a hf => ?_)
                refine S.skip hf rfl rfl rfl (fun a hf => ?_)
                refine S.skip hf rfl rfl rfl (fun a hf => ?_)
                refine S.skip hf rfl rfl rfl (fun a hf => ?_)
                refine S.val hf hs (v := .bool false) rfl rfl rfl (V.pure rfl) (fun a hf => ?_)
                refine S.val hf hs (v := .bool false) rfl rfl rfl (V.pure rfl) (fun a hf => ?_)
                refine S.skip hf rfl rfl rfl (fun a hf => ?_)
                refine S.skip hf rfl rfl rfl (fun a hf => ?_)
                refine S.skip hf rfl rfl rfl (fun a hf => ?_)
                refine S.skip hf rfl rfl rfl (fun a hf => ?_)
                refine S.skip hf rfl rfl rfl (fun a hf => ?_)
                refine S.skip hf rfl rfl rfl (fun a hf => ?_)
                refine S.skip hf rfl rfl rfl (fun a hf => ?_)
                refine S.skip hf rfl rfl rfl (fun a hf => ?_)
                refine S.skip hf rfl rfl rfl (fun a hf => ?_)
                refine S.skip hf rfl rfl rfl (fun a hf => ?_)
                refine S.val hf hs (v := .bool false) rfl rfl rfl (V.pure rfl) (fun a hf => ?_)
                refine S.val hf hs (v := .bool false) rfl rfl rfl (V.pure rfl) (fun a hf => ?_)
                refine R.nil ?_
                refine X.then_ ?_
                exact ⟨false, h, (((hf.nil.cons (hf.get 83 _ rfl)).cons (hf.get 7 _ rfl)).cons (hf.get 1 _ rfl)), hs⟩
        · skip
          refine R.list ?_
          refine S.val hf hs (v := .slice y1A y1.length y1C) rfl rfl rfl (V.pure rfl) (fun a hf => ?_)
          obtain ⟨h0x14, x14, hx14, h⟩ := h
          refine S.val hf hs (v := elemPtr y1A (0 * 1)) rfl rfl rfl (V.index rfl rfl rfl Tryz.runUnderlying74 Tryz.sizeOf9 (hs.ownSome 0 rfl (lt_of_get hx14)) h0x14 (lt_of_get hx14) rfl) (fun a hf => ?_)
          refine S.val hf hs (v := .string (ba x14)) rfl rfl rfl (V.loadOwn (off := 0) 0 rfl hx14 rfl rfl rfl Tryz.isAgg9 Tryz.sizeOf9 rfl rfl) (fun a hf => ?_)
          refine S.val hf hs (v := .bool (x14 == [106, 111, 98])) rfl rfl rfl (V.strCmp (x14 == [106, 111, 98]) rfl rfl rfl rfl) (fun a hf => ?_)
          refine S.split hf hs (b := x14 == [106, 111, 98]) rfl rfl rfl (V.pure rfl) (fun hc a hf => ?_) (fun hc a hf => ?_)
          · replace h := h.1 hc
            refine S.val hf hs (v := .slice y1A y1.length y1C) rfl rfl rfl (V.pure rfl) (fun a hf => ?_)
            refine S.val hf hs (v := .int .i64 (y1.length : Int)) rfl rfl rfl (V.len rfl rfl Tryz.runUnderlying74) (fun a hf => ?_)
            refine S.val hf hs (v := .bool ((y1.length : Int) == 2)) rfl rfl rfl (V.pure rfl) (fun a hf => ?_)
            refine S.val hf hs (v := .bool ((y1.length : Int) == 2)) rfl rfl rfl (V.pure rfl) (fun a hf => ?_)
            refine S.val hf hs (v := .bool ((y1.length : Int) == 2)) rfl rfl rfl (V.pure rfl) (fun a hf => ?_)
            refine R.nil ?_
            refine X.then_ ?_
            exact ⟨((y1.length : Int) == 2), h, (((hf.nil.cons (hf.get 62 _ rfl)).cons (hf.get 7 _ rfl)).cons (hf.get 1 _ rfl)), hs⟩
          · replace h := h.2 hc
            refine S.skip hf rfl rfl rfl (fun a hf => ?_)
            refine S.skip hf rfl rfl rfl (fun a hf => ?_)
            refine S.skip hf rfl rfl rfl (fun a hf => ?_)
            refine S.val hf hs (v := .bool false) rfl rfl rfl (V.pure rfl) (fun a hf => ?_)
            refine S.val hf hs (v := .bool false) rfl rfl rfl (V.pure rfl) (fun a hf => ?_)
            refine R.nil ?_
            refine X.then_ ?_
            exact ⟨false, h, (((hf.nil.cons (hf.get 62 _ rfl)).cons (hf.get 7 _ rfl)).cons (hf.get 1 _ rfl)), hs⟩
    · skip
      refine R.list ?_
      refine S.val hf hs (v := .slice y1A y1.length y1C) rfl rfl rfl (V.pure rfl) (fun a hf => ?_)
      obtain ⟨h0x15, x15, hx15, h⟩ := h
      refine S.val hf hs (v := elemPtr y1A (0 * 1)) rfl rfl rfl (V.index rfl rfl rfl Tryz.runUnderlying74 Tryz.sizeOf9 (hs.ownSome 0 rfl (lt_of_get hx15)) h0x15 (lt_of_get hx15) rfl) (fun a hf => ?_)
      refine S.val hf hs (v := .string (ba x15)) rfl rfl rfl (V.loadOwn (off := 0) 0 rfl hx15 rfl rfl rfl Tryz.isAgg9 Tryz.sizeOf9 rfl rfl) (fun a hf => ?_)
      refine S.val hf hs (v := .bool (x15 == [116, 111, 111, 108])) rfl rfl rfl (V.strCmp (x15 == [116, 111, 111, 108]) rfl rfl rfl rfl) (fun a hf => ?_)
      refine S.split hf hs (b := x15 == [116, 111, 111, 108]) rfl rfl rfl (V.pure rfl) (fun hc a hf => ?_) (fun hc a hf => ?_)
      · replace h := h.1 hc
        refine S.val hf hs (v := .slice y1A y1.length y1C) rfl rfl rfl (V.pure rfl) (fun a hf => ?_)
        refine S.val hf hs (v := .int .i64 (y1.length : Int)) rfl rfl rfl (V.len rfl rfl Tryz.runUnderlying74) (fun a hf => ?_)
        refine S.val hf hs (v := .bool ((y1.length : Int) == 5)) rfl rfl rfl (V.pure rfl) (fun a hf => ?_)
        refine S.val hf hs (v := .bool ((y1.length : Int) == 5)) rfl rfl rfl (V.pure rfl) (fun a hf => ?_)
        refine S.split hf hs (b := (y1.length : Int) == 5) rfl rfl rfl (V.pure rfl) (fun hc a hf => ?_) (fun hc a hf => ?_)
        · replace h := h.1 hc
          refine S.val hf hs (v := .pointer (some ⟨jg, 0, none⟩)) rfl rfl rfl (V.pure rfl) (fun a hf => ?_)
          refine S.val hf hs (v := .pointer (some ⟨jg, 0, none⟩)) rfl rfl rfl (V.pure rfl) (fun a hf => ?_)
          refine S.val hf hs (v := .slice jA j.length jC) rfl rfl rfl (V.loadBox 3 rfl rfl rfl Tryz.isAgg36 Tryz.sizeOf36 rfl rfl) (fun a hf => ?_)
          refine S.val hf hs (v := .int .i64 (j.length : Int)) rfl rfl rfl (V.len rfl rfl Tryz.runUnderlying36) (fun a hf => ?_)
          refine S.val hf hs (v := .bool ((j.length : Int) == 0)) rfl rfl rfl (V.pure rfl) (fun a hf => ?_)
          refine S.val hf hs (v := .bool ((j.length : Int) == 0)) rfl rfl rfl (V.pure rfl) (fun a hf => ?_)
          refine S.val hf hs (v := .bool ((j.length : Int) == 0)) rfl rfl rfl (V.pure rfl) (fun a hf => ?_)
          refine R.nil ?_
          refine X.then_ ?_
          exact ⟨((j.length : Int) == 0), h, ((((hf.nil.cons (hf.get 17 _ rfl)).cons (hf.get 7 _ rfl)).cons (hf.get 1 _ rfl)).cons (hf.get 0 _ rfl)), hs⟩
        · replace h := h.2 hc
          refine S.skip hf rfl rfl rfl (fun a hf => ?_)
          refine S.skip hf rfl rfl rfl (fun a hf => ?_)
          refine S.skip hf rfl rfl rfl (fun a hf => ?_)
          refine S.skip hf rfl rfl rfl (fun a hf => ?_)
          refine S.skip hf rfl rfl rfl (fun a hf => ?_)
          refine S.val hf hs (v := .bool false) rfl rfl rfl (V.pure rfl) (fun a hf => ?_)
          refine S.val hf hs (v := .bool false) rfl rfl rfl (V.pure rfl) (fun a hf => ?_)
          refine R.nil ?_
          refine X.then_ ?_
          exact ⟨false, h, ((((hf.nil.cons (hf.get 17 _ rfl)).cons (hf.get 7 _ rfl)).cons (hf.get 1 _ rfl)).cons (hf.get 0 _ rfl)), hs⟩
      · replace h := h.2 hc
        refine S.skip hf rfl rfl rfl (fun a hf => ?_)
        refine S.skip hf rfl rfl rfl (fun a hf => ?_)
        refine S.skip hf rfl rfl rfl (fun a hf => ?_)
        refine S.val hf hs (v := .bool false) rfl rfl rfl (V.pure rfl) (fun a hf => ?_)
        refine S.val hf hs (v := .bool false) rfl rfl rfl (V.pure rfl) (fun a hf => ?_)
        refine S.skip hf rfl rfl rfl (fun a hf => ?_)
        refine S.skip hf rfl rfl rfl (fun a hf => ?_)
        refine S.skip hf rfl rfl rfl (fun a hf => ?_)
        refine S.skip hf rfl rfl rfl (fun a hf => ?_)
        refine S.skip hf rfl rfl rfl (fun a hf => ?_)
        refine S.val hf hs (v := .bool false) rfl rfl rfl (V.pure rfl) (fun a hf => ?_)
        refine S.val hf hs (v := .bool false) rfl rfl rfl (V.pure rfl) (fun a hf => ?_)
        refine R.nil ?_
        refine X.then_ ?_
        exact ⟨false, h, ((((hf.nil.cons (hf.get 17 _ rfl)).cons (hf.get 7 _ rfl)).cons (hf.get 1 _ rfl)).cons (hf.get 0 _ rfl)), hs⟩

set_option linter.unusedVariables false
def M_drill_Read_k2 (Q : (List Bit) → (List Job) → Int → Int → Prop) (n2 : Int) (again1 : List Bit → List Job → Str → Int → Prop) (y2 : Str) (l5 : List Bit) (l6 : List Job) (c1 : Bool) : Prop :=
  cnd c1 (Q ([] : List Bit) ([] : List Job) n2 10) (again1 l5 l6 y2 (w64 (n2 + 1)))
def M_drill_Read_L1 (Q : (List Bit) → (List Job) → Int → Int → Prop) (again1 : List Bit → List Job → Str → Int → Prop) (l3 : List Bit) (l4 : List Job) (s2 : Str) (n2 : Int) : Prop :=
  cnd (!(s2 == [])) (M_strings_Cut s2 [10] fun y1 y2 y3 => cnd (!y3) (M_drill_Read_k2 Q n2 again1 y2 l3 l4 true) (M_drill_readLine l3 l4 y1 fun y4 z1 z2 => M_drill_Read_k2 Q n2 again1 y2 z1 z2 (!y4))) (M_drill_CheckJobs l3 l4 fun y5 => cnd (y5 != 0) (Q ([] : List Bit) ([] : List Job) 0 y5) (Q l3 l4 0 0))
def M_drill_Read (text : Str) (Q : (List Bit) → (List Job) → Int → Int → Prop) : Prop :=
  cnd (decide ((text.length : Int) > 500000)) (Q ([] : List Bit) ([] : List Job) 0 2) (lp (fun again (s : List Bit × List Job × Str × Int) => M_drill_Read_L1 Q (fun l3 l4 s2 n2 => again (l3, l4, s2, n2)) s.1 s.2.1 s.2.2.1 s.2.2.2) (([] : List Bit), ([] : List Job), text, 1))
set_option maxHeartbeats 1000000 in
theorem R_drill_Read (text : Str) (w0 : World)  (Q : (List Bit) → (List Job) → Int → Int → Prop) (h : M_drill_Read text Q) :
    Ret Tryz.prog 16 #[.string (ba text)] w0 fun v w' => ∃ (r0 : (List Bit)) (r0A : Option Addr) (r0C : Nat) (r1 : (List Job)) (r1A : Option Addr) (r1C : Nat) (r1as : List (Option Addr × Nat)) (r2 : Int) (r3 : Int), v = .tuple #[.slice r0A r0.length r0C, .slice r1A r1.length r1C, .int .i64 r2, .int .i64 r3] ∧ Q r0 r1 r2 r3 ∧ Sat w0 none_ [hown 41 r0A r0C r0, hrows 90 92 r1A r1C r1as r1] w' := by
  refine fn_enter Tryz.func16 rfl Tryz.ntmps16 rfl (fs := [(0, .string (ba text))]) rfl (fun a hf => ?_)
  have hs := Sat.start w0 none_
  unfold M_drill_Read at h
  refine wp_seq ?_
  refine R.list ?_
  refine S.val hf hs (v := .slice none 0 0) rfl rfl rfl (V.pure rfl) (fun a hf => ?_)
  refine S.val hf hs (v := .slice none 0 0) rfl rfl rfl (V.pure rfl) (fun a hf => ?_)
  refine S.val hf hs (v := .int .i64 0) rfl rfl rfl (V.pure rfl) (fun a hf => ?_)
  refine S.val hf hs (v := .int .i64 0) rfl rfl rfl (V.pure rfl) (fun a hf => ?_)
  refine R.nil ?_
  refine X.then_ ?_
  refine wp_seq ?_
  refine wp_seq ?_
  refine R.list ?_
  refine S.val hf hs (v := .string (ba text)) rfl rfl rfl (V.pure rfl) (fun a hf => ?_)
  refine S.val hf hs (v := .int .i64 (text.length : Int)) rfl rfl rfl (V.lenStr rfl rfl Tryz.runUnderlying9) (fun a hf => ?_)
  refine S.val hf hs (v := .bool (decide ((text.length : Int) > 500000))) rfl rfl rfl (V.pure rfl) (fun a hf => ?_)
  refine R.nil ?_
  refine X.then_ ?_
  refine C.cond hf (b := decide ((text.length : Int) > 500000)) rfl (fun hc => ?_) (fun hc => ?_)
  · replace h := h.1 hc
    refine wp_seq ?_
    refine R.list ?_
    refine S.val hf hs (v := .slice none 0 0) rfl rfl rfl (V.pure rfl) (fun a hf => ?_)
    refine S.val hf hs (v := .slice none 0 0) rfl rfl rfl (V.pure rfl) (fun a hf => ?_)
    refine S.val hf hs (v := .int .i64 0) rfl rfl rfl (V.pure rfl) (fun a hf => ?_)
    refine S.val hf hs (v := .int .i64 2) rfl rfl rfl (V.pure rfl) (fun a hf => ?_)
    refine R.nil ?_
    refine X.then_ ?_
    refine wp_ret ?_
    refine X.then_ret ?_
    replace hs := hs.nilOwn (α := Bit) 41
    replace hs := hs.nilRows (α := Job) 90 92
    replace hs := hs.front 1 rfl
    replace hs := hs.take 2
    exact L.ret hf (run_results4 Tryz.results16 (ResIs.tmp hf rfl) (ResIs.tmp hf rfl) (ResIs.tmp hf rfl) (ResIs.tmp hf rfl)) ⟨([] : List Bit), none, 0, ([] : List Job), none, 0, [], 0, 2, rfl, h, hs⟩
  · replace h := h.2 hc
    refine wp_skip ?_
    refine X.then_ ?_
    refine wp_seq ?_
    refine R.list ?_
    refine S.alloc hf hs rfl rfl rfl [.slice none 0 0] rfl Tryz.zeroValue35 rfl (fun g1 a w hf hs => ?_)
    refine R.nil ?_
    refine X.then_ ?_
    refine wp_seq ?_
    refine R.list ?_
    refine S.alloc hf hs rfl rfl rfl [.slice none 0 0] rfl Tryz.zeroValue36 rfl (fun g2 a w hf hs => ?_)
    refine R.nil ?_
    refine X.then_ ?_
    refine wp_seq ?_
    refine wp_seq ?_
    refine R.list ?_
    refine S.val hf hs (v := .int .i64 1) rfl rfl rfl (V.pure rfl) (fun a hf => ?_)
    refine R.nil ?_
    refine X.then_ ?_
    refine wp_block ?_
    replace hs := hs.nilOwn (α := Bit) 41
    replace hs := hs.rebox 2 (vs' := [.slice none ([] : List Bit).length 0]) rfl rfl
    replace hs := hs.nilRows (α := Job) 90 92
    replace hs := hs.rebox 2 (vs' := [.slice none ([] : List Job).length 0]) rfl rfl
    replace hs := hs.front 2 rfl
    replace hs := hs.front 2 rfl
    replace hs := hs.front 3 rfl
    obtain ⟨kk, h⟩ := h
    refine C.loop (fun kk a w => ∃ (l3 : List Bit) (l3A : Option Addr) (l3C : Nat) (l4 : List Job) (l4A : Option Addr) (l4C : Nat) (l4as : List (Option Addr × Nat)) (s2 : Str) (n2 : Int), iterF (fun again (s : List Bit × List Job × Str × Int) => M_drill_Read_L1 Q (fun l3 l4 s2 n2 => again (l3, l4, s2, n2)) s.1 s.2.1 s.2.2.1 s.2.2.2) kk (l3, l4, s2, n2) ∧ FrOk 43 [(0, .string (ba s2)), (6, .pointer (some ⟨g1, 0, none⟩)), (7, .pointer (some ⟨g2, 0, none⟩)), (8, .int .i64 n2)] a ∧ Sat w0 none_ [hbox g1 35 [.slice l3A l3.length l3C], hown 41 l3A l3C l3, hbox g2 36 [.slice l4A l4.length l4C], hrows 90 92 l4A l4C l4as l4] w) kk ⟨([] : List Bit), none, 0, ([] : List Job), none, 0, ([] : List (Option Addr × Nat)), text, 1, h, ((((hf.nil.cons (hf.get 8 _ rfl)).cons (hf.get 7 _ rfl)).cons (hf.get 6 _ rfl)).cons (hf.get 0 _ rfl)), hs⟩ (fun a w ⟨_, _, _, _, _, _, _, _, _, h, _, _⟩ => h) ?_
    clear h hf hs
    rintro kk a w ⟨l3, l3A, l3C, l4, l4A, l4C, l4as, s2, n2, h, hf, hs⟩
    obtain ⟨again1, hagain1⟩ : ∃ X : List Bit → List Job → Str → Int → Prop, X = (fun l3 l4 s2 n2 => iterF (fun again (s : List Bit × List Job × Str × Int) => M_drill_Read_L1 Q (fun l3 l4 s2 n2 => again (l3, l4, s2, n2)) s.1 s.2.1 s.2.2.1 s.2.2.2) kk (l3, l4, s2, n2)) := ⟨_, rfl⟩
    replace h : M_drill_Read_L1 Q again1 l3 l4 s2 n2 := by rw [hagain1]; exact h
    unfold M_drill_Read_L1 at h
    refine wp_seq ?_
    refine wp_seq ?_
    refine R.list ?_
    refine S.val hf hs (v := .string (ba s2)) rfl rfl rfl (V.pure rfl) (fun a hf => ?_)
    refine S.val hf hs (v := .bool (!(s2 == []))) rfl rfl rfl (V.strCmp (!(s2 == [])) rfl rfl rfl rfl) (fun a hf => ?_)
    refine R.nil ?_
    refine X.then_ ?_
    refine C.cond hf (b := !(s2 == [])) rfl (fun hc => ?_) (fun hc => ?_)
    · replace h := h.1 hc
      refine wp_skip ?_
      refine X.then_ ?_
      refine wp_seq ?_
      refine wp_block ?_
      refine wp_seq ?_
      refine R.list ?_
      refine S.val hf hs (v := .string (ba s2)) rfl rfl rfl (V.pure rfl) (fun a hf => ?_)
      refine S.call hf rfl rfl rfl (call_fn (vs := [.string (ba s2), .string (ba [10])]) rfl rfl rfl Tryz.call38) (R_strings_Cut s2 [10] _  _ h) (fun v a w' hf hr => ?_)
      obtain ⟨y1, y2, y3, rfl, h2, hs2⟩ := hr
      replace h := h2; replace hs := hs.call hs2; clear h2 hs2
      refine S.val hf hs (v := .tuple #[.string (ba y1), .string (ba y2), .bool y3]) rfl rfl rfl (V.pure rfl) (fun a hf => ?_)
      refine S.val hf hs (v := .string (ba y1)) rfl rfl rfl (V.pure rfl) (fun a hf => ?_)
      refine S.val hf hs (v := .string (ba y2)) rfl rfl rfl (V.pure rfl) (fun a hf => ?_)
      refine S.val hf hs (v := .bool y3) rfl rfl rfl (V.pure rfl) (fun a hf => ?_)
      refine S.val hf hs (v := .string (ba y1)) rfl rfl rfl (V.pure rfl) (fun a hf => ?_)
      refine S.val hf hs (v := .string (ba y2)) rfl rfl rfl (V.pure rfl) (fun a hf => ?_)
      refine S.val hf hs (v := .bool y3) rfl rfl rfl (V.pure rfl) (fun a hf => ?_)
      refine R.nil ?_
      refine X.then_ ?_
      refine wp_seq ?_
      refine wp_seq ?_
      refine C.cut (J := fun a w => ∃ (l5 : List Bit) (l5A : Option Addr) (l5C : Nat) (l6 : List Job) (l6A : Option Addr) (l6C : Nat) (l6as : List (Option Addr × Nat)) (c1 : Bool), M_drill_Read_k2 Q n2 again1 y2 l5 l6 c1 ∧ FrOk 43 [(6, .pointer (some ⟨g1, 0, none⟩)), (7, .pointer (some ⟨g2, 0, none⟩)), (8, .int .i64 n2), (10, .string (ba y2)), (32, .bool c1)] a ∧ Sat w0 none_ [hbox g1 35 [.slice l5A l5.length l5C], hown 41 l5A l5C l5, hbox g2 36 [.slice l6A l6.length l6C], hrows 90 92 l6A l6C l6as l6] w) ?_ ?_
      · rintro a w ⟨l5, l5A, l5C, l6, l6A, l6C, l6as, c1, h, hf, hs⟩
        unfold M_drill_Read_k2 at h
        refine C.cond hf (b := c1) rfl (fun hc => ?_) (fun hc => ?_)
        · replace h := h.1 hc
          refine wp_seq ?_
          refine R.list ?_
          refine S.val hf hs (v := .int .i64 n2) rfl rfl rfl (V.pure rfl) (fun a hf => ?_)
          refine S.val hf hs (v := .slice none 0 0) rfl rfl rfl (V.pure rfl) (fun a hf => ?_)
          refine S.val hf hs (v := .slice none 0 0) rfl rfl rfl (V.pure rfl) (fun a hf => ?_)
          refine S.val hf hs (v := .int .i64 n2) rfl rfl rfl (V.pure rfl) (fun a hf => ?_)
          refine S.val hf hs (v := .int .i64 10) rfl rfl rfl (V.pure rfl) (fun a hf => ?_)
          refine R.nil ?_
          refine X.then_ ?_
          refine wp_ret ?_
          refine X.then_ret ?_
          refine X.blk_ret ?_
          refine X.then_ret ?_
          refine X.then_ret ?_
          refine X.blk_ret ?_
          refine X.then_ret ?_
          replace hs := hs.nilOwn (α := Bit) 41
          replace hs := hs.nilRows (α := Job) 90 92
          replace hs := hs.front 1 rfl
          replace hs := hs.take 2
          exact L.ret hf (run_results4 Tryz.results16 (ResIs.tmp hf rfl) (ResIs.tmp hf rfl) (ResIs.tmp hf rfl) (ResIs.tmp hf rfl)) ⟨([] : List Bit), none, 0, ([] : List Job), none, 0, [], n2, 10, rfl, h, hs⟩
        · replace h := h.2 hc
          refine wp_skip ?_
          refine X.then_ ?_
          refine R.list ?_
          refine S.val hf hs (v := .string (ba y2)) rfl rfl rfl (V.pure rfl) (fun a hf => ?_)
          refine S.val hf hs (v := .string (ba y2)) rfl rfl rfl (V.pure rfl) (fun a hf => ?_)
          refine R.nil ?_
          refine X.blk ?_
          refine X.then_ ?_
          refine R.list ?_
          refine S.val hf hs (v := .int .i64 n2) rfl rfl rfl (V.pure rfl) (fun a hf => ?_)
          refine S.val hf hs (v := .int .i64 (w64 (n2 + 1))) rfl rfl rfl (V.pure rfl) (fun a hf => ?_)
          refine S.val hf hs (v := .int .i64 (w64 (n2 + 1))) rfl rfl rfl (V.pure rfl) (fun a hf => ?_)
          refine R.nil ?_
          refine X.then_ ?_
          exact ⟨l5, l5A, l5C, l6, l6A, l6C, l6as, y2, (w64 (n2 + 1)), (by rw [hagain1] at h; exact h), ((((hf.nil.cons (hf.get 8 _ rfl)).cons (hf.get 7 _ rfl)).cons (hf.get 6 _ rfl)).cons (hf.get 0 _ rfl)), hs⟩
      · skip
        refine R.list ?_
        refine S.val hf hs (v := .bool y3) rfl rfl rfl (V.pure rfl) (fun a hf => ?_)
        refine S.val hf hs (v := .bool (!y3)) rfl rfl rfl (V.pure rfl) (fun a hf => ?_)
        refine S.split hf hs (b := !y3) rfl rfl rfl (V.pure rfl) (fun hc a hf => ?_) (fun hc a hf => ?_)
        · replace h := h.1 hc
          refine S.skip hf rfl rfl rfl (fun a hf => ?_)
          refine S.skip hf rfl rfl rfl (fun a hf => ?_)
          refine S.skip hf rfl rfl rfl (fun a hf => ?_)
          refine S.val hf hs (v := .bool true) rfl rfl rfl (V.pure rfl) (fun a hf => ?_)
          refine R.nil ?_
          refine X.then_ ?_
          exact ⟨l3, l3A, l3C, l4, l4A, l4C, l4as, true, h, (((((hf.nil.cons (hf.get 32 _ rfl)).cons (hf.get 10 _ rfl)).cons (hf.get 8 _ rfl)).cons (hf.get 7 _ rfl)).cons (hf.get 6 _ rfl)), hs⟩
        · replace h := h.2 hc
          refine S.val hf hs (v := .string (ba y1)) rfl rfl rfl (V.pure rfl) (fun a hf => ?_)
          replace hs := hs.front 3 rfl
          replace hs := hs.front 3 rfl
          replace hs := hs.front 3 rfl
          replace hs := hs.front 3 rfl
          obtain ⟨F1, hsF, hback, hold, hrest⟩ := Sat.callOwns [hbox g1 35 [.slice l3A l3.length l3C], hown 41 l3A l3C l3, hbox g2 36 [.slice l4A l4.length l4C], hrows 90 92 l4A l4C l4as l4] (σ := []) hs
          refine S.call hf rfl rfl rfl (call_fn (vs := [.pointer (some ⟨g1, 0, none⟩), .pointer (some ⟨g2, 0, none⟩), .string (ba y1)]) rfl rfl rfl Tryz.call46) (R_drill_readLine l3 l4 y1 _ _ g1 l3A l3C g2 l4A l4C l4as hsF _ h) (fun v a w' hf hr => ?_)
          obtain ⟨y4, z1, z1A, z1C, z2, z2A, z2C, z2as, rfl, h2, hs2⟩ := hr
          replace h := h2; replace hs := hback _ _ hs2; clear h2 hs2 hback hold hrest hsF
          refine S.val hf hs (v := .bool (!y4)) rfl rfl rfl (V.pure rfl) (fun a hf => ?_)
          refine S.val hf hs (v := .bool (!y4)) rfl rfl rfl (V.pure rfl) (fun a hf => ?_)
          refine R.nil ?_
          refine X.then_ ?_
          exact ⟨z1, z1A, z1C, z2, z2A, z2C, z2as, (!y4), h, (((((hf.nil.cons (hf.get 32 _ rfl)).cons (hf.get 10 _ rfl)).cons (hf.get 8 _ rfl)).cons (hf.get 7 _ rfl)).cons (hf.get 6 _ rfl)), hs⟩
    · replace h := h.2 hc
      refine wp_exit ?_
      refine X.then_exit ?_
      refine X.then_exit ?_
      refine X.blk_exit ?_
      refine X.then_ ?_
      refine wp_seq ?_
      refine wp_seq ?_
      refine R.list ?_
      refine S.val hf hs (v := .slice l3A l3.length l3C) rfl rfl rfl (V.loadBox 0 rfl rfl rfl Tryz.isAgg35 Tryz.sizeOf35 rfl rfl) (fun a hf => ?_)
      refine S.val hf hs (v := .slice l4A l4.length l4C) rfl rfl rfl (V.loadBox 2 rfl rfl rfl Tryz.isAgg36 Tryz.sizeOf36 rfl rfl) (fun a hf => ?_)
      refine S.call hf rfl rfl rfl (call_fn (vs := [.slice l3A l3.length l3C, .slice l4A l4.length l4C]) rfl rfl rfl Tryz.call47) (R_drill_CheckJobs l3 l4 _ l3A l3C (hs.ownView 1 rfl) l4A l4C (hs.rowsView 3 rfl) _ h) (fun v a w' hf hr => ?_)
      obtain ⟨y5, rfl, h2, hs2⟩ := hr
      replace h := h2; replace hs := hs.call hs2; clear h2 hs2
      refine S.val hf hs (v := .int .i64 y5) rfl rfl rfl (V.pure rfl) (fun a hf => ?_)
      refine R.nil ?_
      refine X.then_ ?_
      refine wp_seq ?_
      refine R.list ?_
      refine S.val hf hs (v := .int .i64 y5) rfl rfl rfl (V.pure rfl) (fun a hf => ?_)
      refine S.val hf hs (v := .bool (y5 != 0)) rfl rfl rfl (V.pure rfl) (fun a hf => ?_)
      refine R.nil ?_
      refine X.then_ ?_
      refine C.cond hf (b := y5 != 0) rfl (fun hc => ?_) (fun hc => ?_)
      · replace h := h.1 hc
        refine wp_seq ?_
        refine R.list ?_
        refine S.val hf hs (v := .int .i64 y5) rfl rfl rfl (V.pure rfl) (fun a hf => ?_)
        refine S.val hf hs (v := .slice none 0 0) rfl rfl rfl (V.pure rfl) (fun a hf => ?_)
        refine S.val hf hs (v := .slice none 0 0) rfl rfl rfl (V.pure rfl) (fun a hf => ?_)
        refine S.val hf hs (v := .int .i64 0) rfl rfl rfl (V.pure rfl) (fun a hf => ?_)
        refine S.val hf hs (v := .int .i64 y5) rfl rfl rfl (V.pure rfl) (fun a hf => ?_)
        refine R.nil ?_
        refine X.then_ ?_
        refine wp_ret ?_
        refine X.then_ret ?_
        replace hs := hs.nilOwn (α := Bit) 41
        replace hs := hs.nilRows (α := Job) 90 92
        replace hs := hs.front 1 rfl
        replace hs := hs.take 2
        exact L.ret hf (run_results4 Tryz.results16 (ResIs.tmp hf rfl) (ResIs.tmp hf rfl) (ResIs.tmp hf rfl) (ResIs.tmp hf rfl)) ⟨([] : List Bit), none, 0, ([] : List Job), none, 0, [], 0, y5, rfl, h, hs⟩
      · replace h := h.2 hc
        refine wp_skip ?_
        refine X.then_ ?_
        refine wp_seq ?_
        refine R.draw mo (by kernel_rfl) hs ?_
        refine D.val hf (v := .slice l3A l3.length l3C) rfl rfl rfl (V.loadBox 0 rfl rfl rfl Tryz.isAgg35 Tryz.sizeOf35 rfl rfl) (fun a hf => ?_)
        refine D.val hf (v := .slice l4A l4.length l4C) rfl rfl rfl (V.loadBox 2 rfl rfl rfl Tryz.isAgg36 Tryz.sizeOf36 rfl rfl) (fun a hf => ?_)
        refine D.val hf (v := .slice l3A l3.length l3C) rfl rfl rfl (V.pure rfl) (fun a hf => ?_)
        refine D.val hf (v := .slice l4A l4.length l4C) rfl rfl rfl (V.pure rfl) (fun a hf => ?_)
        refine D.val hf (v := .int .i64 0) rfl rfl rfl (V.pure rfl) (fun a hf => ?_)
        refine D.val hf (v := .int .i64 0) rfl rfl rfl (V.pure rfl) (fun a hf => ?_)
        refine D.done (fun w hs => ?_)
        refine X.then_ ?_
        refine wp_ret ?_
        replace hs := hs.front 3 rfl
        replace hs := hs.front 2 rfl
        replace hs := hs.take 2
        exact L.ret hf (run_results4 Tryz.results16 (ResIs.tmp hf rfl) (ResIs.tmp hf rfl) (ResIs.tmp hf rfl) (ResIs.tmp hf rfl)) ⟨l3, l3A, l3C, l4, l4A, l4C, l4as, 0, 0, rfl, h, hs⟩

set_option linter.unusedVariables false
def M_ref8_number_k1 (s_ : Str) (Q : Int → Bool → Prop) (c1 : Bool) : Prop :=
  cnd c1 (Q 0 false) (M_strconv_Atoi s_ fun y1 y2 => Q y1 true)
def M_ref8_number (s_ : Str) (Q : Int → Bool → Prop) : Prop :=
  cnd (s_ == []) (M_ref8_number_k1 s_ Q true) (cnd (decide ((s_.length : Int) > 9)) (M_ref8_number_k1 s_ Q true) (cnd (decide ((s_.length : Int) > 1)) (idx s_ 0 fun x1 => cnd ((x1.toNat : Int) == 48) (M_ref8_number_k1 s_ Q true) (M_strings_Trim s_ [48, 49, 50, 51, 52, 53, 54, 55, 56, 57] fun y3 => M_ref8_number_k1 s_ Q (!(y3 == [])))) (M_strings_Trim s_ [48, 49, 50, 51, 52, 53, 54, 55, 56, 57] fun y4 => M_ref8_number_k1 s_ Q (!(y4 == [])))))
set_option maxHeartbeats 1000000 in
theorem R_ref8_number (s_ : Str) (w0 : World)  (Q : Int → Bool → Prop) (h : M_ref8_number s_ Q) :
    Ret Tryz.prog 107 #[.string (ba s_)] w0 fun v w' => ∃ (r0 : Int) (r1 : Bool), v = .tuple #[.int .i64 r0, .bool r1] ∧ Q r0 r1 ∧ Sat w0 none_ [] w' := by
  refine fn_enter Tryz.func107 rfl Tryz.ntmps107 rfl (fs := [(0, .string (ba s_))]) rfl (fun a hf => ?_)
  have hs := Sat.start w0 none_
  unfold M_ref8_number at h
  refine wp_seq ?_
  refine R.list ?_
  refine S.val hf hs (v := .int .i64 0) rfl rfl rfl (V.pure rfl) (fun a hf => ?_)
  refine S.val hf hs (v := .bool false) rfl rfl rfl (V.pure rfl) (fun a hf => ?_)
  refine R.nil ?_
  refine X.then_ ?_
  refine wp_seq ?_
  refine wp_seq ?_
  refine C.cut (J := fun a w => ∃ (c1 : Bool), M_ref8_number_k1 s_ Q c1 ∧ FrOk 34 [(0, .string (ba s_)), (27, .bool c1)] a ∧ Sat w0 none_ [] w) ?_ ?_
  · rintro a w ⟨c1, h, hf, hs⟩
    unfold M_ref8_number_k1 at h
    refine C.cond hf (b := c1) rfl (fun hc => ?_) (fun hc => ?_)
    · replace h := h.1 hc
      refine wp_seq ?_
      refine R.list ?_
      refine S.val hf hs (v := .int .i64 0) rfl rfl rfl (V.pure rfl) (fun a hf => ?_)
      refine S.val hf hs (v := .bool false) rfl rfl rfl (V.pure rfl) (fun a hf => ?_)
      refine R.nil ?_
      refine X.then_ ?_
      refine wp_ret ?_
      refine X.then_ret ?_
      exact L.ret hf (run_results2 Tryz.results107 (ResIs.tmp hf rfl) (ResIs.tmp hf rfl)) ⟨0, false, rfl, h, hs.nil⟩
    · replace h := h.2 hc
      refine wp_skip ?_
      refine X.then_ ?_
      refine wp_seq ?_
      refine R.list ?_
      refine S.val hf hs (v := .string (ba s_)) rfl rfl rfl (V.pure rfl) (fun a hf => ?_)
      refine S.call hf rfl rfl rfl (call_fn (vs := [.string (ba s_)]) rfl rfl rfl Tryz.call143) (R_strconv_Atoi s_ _  _ h) (fun v a w' hf hr => ?_)
      obtain ⟨y1, y2, rfl, h2, hs2⟩ := hr
      replace h := h2; replace hs := hs.call hs2; clear h2 hs2
      refine S.val hf hs (v := .tuple #[.int .i64 y1, .nilIface]) rfl rfl rfl (V.pure rfl) (fun a hf => ?_)
      refine S.val hf hs (v := .int .i64 y1) rfl rfl rfl (V.pure rfl) (fun a hf => ?_)
      refine S.val hf hs (v := .nilIface) rfl rfl rfl (V.pure rfl) (fun a hf => ?_)
      refine S.val hf hs (v := .int .i64 y1) rfl rfl rfl (V.pure rfl) (fun a hf => ?_)
      refine S.val hf hs (v := .nilIface) rfl rfl rfl (V.pure rfl) (fun a hf => ?_)
      refine R.nil ?_
      refine X.then_ ?_
      refine wp_seq ?_
      refine R.list ?_
      refine S.val hf hs (v := .int .i64 y1) rfl rfl rfl (V.pure rfl) (fun a hf => ?_)
      refine S.val hf hs (v := .int .i64 y1) rfl rfl rfl (V.pure rfl) (fun a hf => ?_)
      refine S.val hf hs (v := .bool true) rfl rfl rfl (V.pure rfl) (fun a hf => ?_)
      refine R.nil ?_
      refine X.then_ ?_
      refine wp_ret ?_
      exact L.ret hf (run_results2 Tryz.results107 (ResIs.tmp hf rfl) (ResIs.tmp hf rfl)) ⟨y1, true, rfl, h, hs.nil⟩
  · skip
    refine R.list ?_
    refine S.val hf hs (v := .string (ba s_)) rfl rfl rfl (V.pure rfl) (fun a hf => ?_)
    refine S.val hf hs (v := .bool (s_ == [])) rfl rfl rfl (V.strCmp (s_ == []) rfl rfl rfl rfl) (fun a hf => ?_)
    refine S.split hf hs (b := s_ == []) rfl rfl rfl (V.pure rfl) (fun hc a hf => ?_) (fun hc a hf => ?_)
    · replace h := h.1 hc
      refine S.skip hf rfl rfl rfl (fun a hf => ?_)
      refine S.skip hf rfl rfl rfl (fun a hf => ?_)
      refine S.skip hf rfl rfl rfl (fun a hf => ?_)
      refine S.val hf hs (v := .bool true) rfl rfl rfl (V.pure rfl) (fun a hf => ?_)
      refine S.val hf hs (v := .bool true) rfl rfl rfl (V.pure rfl) (fun a hf => ?_)
      refine S.skip hf rfl rfl rfl (fun a hf => ?_)
      refine S.skip hf rfl rfl rfl (fun a hf => ?_)
      refine S.skip hf rfl rfl rfl (fun a hf => ?_)
      refine S.skip hf rfl rfl rfl (fun a hf => ?_)
      refine S.skip hf rfl rfl rfl (fun a hf => ?_)
      refine S.skip hf rfl rfl rfl (fun a hf => ?_)
      refine S.skip hf rfl rfl rfl (fun a hf => ?_)
      refine S.skip hf rfl rfl rfl (fun a hf => ?_)
      refine S.val hf hs (v := .bool true) rfl rfl rfl (V.pure rfl) (fun a hf => ?_)
      refine S.val hf hs (v := .bool true) rfl rfl rfl (V.pure rfl) (fun a hf => ?_)
      refine S.skip hf rfl rfl rfl (fun a hf => ?_)
      refine S.skip hf rfl rfl rfl (fun a hf => ?_)
      refine S.skip hf rfl rfl rfl (fun a hf => ?_)
      refine S.val hf hs (v := .bool true) rfl rfl rfl (V.pure rfl) (fun a hf => ?_)
      refine R.nil ?_
      refine X.then_ ?_
      exact ⟨true, h, ((hf.nil.cons (hf.get 27 _ rfl)).cons (hf.get 0 _ rfl)), hs⟩
    · replace h := h.2 hc
      refine S.val hf hs (v := .string (ba s_)) rfl rfl rfl (V.pure rfl) (fun a hf => ?_)
      refine S.val hf hs (v := .int .i64 (s_.length : Int)) rfl rfl rfl (V.lenStr rfl rfl Tryz.runUnderlying9) (fun a hf => ?_)
      refine S.val hf hs (v := .bool (decide ((s_.length : Int) > 9))) rfl rfl rfl (V.pure rfl) (fun a hf => ?_)
      refine S.val hf hs (v := .bool (decide ((s_.length : Int) > 9))) rfl rfl rfl (V.pure rfl) (fun a hf => ?_)
      refine S.split hf hs (b := decide ((s_.length : Int) > 9)) rfl rfl rfl (V.pure rfl) (fun hc a hf => ?_) (fun hc a hf => ?_)
      · replace h := h.1 hc
        refine S.skip hf rfl rfl rfl (fun a hf => ?_)
        refine S.skip hf rfl rfl rfl (fun a hf => ?_)
        refine S.skip hf rfl rfl rfl (fun a hf => ?_)
        refine S.skip hf rfl rfl rfl (fun a hf => ?_)
        refine S.skip hf rfl rfl rfl (fun a hf => ?_)
        refine S.skip hf rfl rfl rfl (fun a hf => ?_)
        refine S.skip hf rfl rfl rfl (fun a hf => ?_)
        refine S.skip hf rfl rfl rfl (fun a hf => ?_)
        refine S.val hf hs (v := .bool true) rfl rfl rfl (V.pure rfl) (fun a hf => ?_)
        refine S.val hf hs (v := .bool true) rfl rfl rfl (V.pure rfl) (fun a hf => ?_)
        refine S.skip hf rfl rfl rfl (fun a hf => ?_)
        refine S.skip hf rfl rfl rfl (fun a hf => ?_)
        refine S.skip hf rfl rfl rfl (fun a hf => ?_)
        refine S.val hf hs (v := .bool true) rfl rfl rfl (V.pure rfl) (fun a hf => ?_)
        refine R.nil ?_
        refine X.then_ ?_
        exact ⟨true, h, ((hf.nil.cons (hf.get 27 _ rfl)).cons (hf.get 0 _ rfl)), hs⟩
      · replace h := h.2 hc
        refine S.val hf hs (v := .string (ba s_)) rfl rfl rfl (V.pure rfl) (fun a hf => ?_)
        refine S.val hf hs (v := .int .i64 (s_.length : Int)) rfl rfl rfl (V.lenStr rfl rfl Tryz.runUnderlying9) (fun a hf => ?_)
        refine S.val hf hs (v := .bool (decide ((s_.length : Int) > 1))) rfl rfl rfl (V.pure rfl) (fun a hf => ?_)
        refine S.split hf hs (b := decide ((s_.length : Int) > 1)) rfl rfl rfl (V.pure rfl) (fun hc a hf => ?_) (fun hc a hf => ?_)
        · replace h := h.1 hc
          refine S.val hf hs (v := .string (ba s_)) rfl rfl rfl (V.pure rfl) (fun a hf => ?_)
          obtain ⟨h0x1, x1, hx1, h⟩ := h
          refine S.val hf hs (v := .int .u8 (x1.toNat : Int)) rfl rfl rfl (V.indexStr rfl rfl rfl Tryz.runUnderlying9 h0x1 hx1) (fun a hf => ?_)
          refine S.val hf hs (v := .bool ((x1.toNat : Int) == 48)) rfl rfl rfl (V.pure rfl) (fun a hf => ?_)
          refine S.val hf hs (v := .bool ((x1.toNat : Int) == 48)) rfl rfl rfl (V.pure rfl) (fun a hf => ?_)
          refine S.val hf hs (v := .bool ((x1.toNat : Int) == 48)) rfl rfl rfl (V.pure rfl) (fun a hf => ?_)
          refine S.split hf hs (b := (x1.toNat : Int) == 48) rfl rfl rfl (V.pure rfl) (fun hc a hf => ?_) (fun hc a hf => ?_)
          · replace h := h.1 hc
            refine S.skip hf rfl rfl rfl (fun a hf => ?_)
            refine S.skip hf rfl rfl rfl (fun a hf => ?_)
            refine S.skip hf rfl rfl rfl (fun a hf => ?_)
            refine S.val hf hs (v := .bool true) rfl rfl rfl (V.pure rfl) (fun a hf => ?_)
            refine R.nil ?_
            refine X.then_ ?_
            exact ⟨true, h, ((hf.nil.cons (hf.get 27 _ rfl)).cons (hf.get 0 _ rfl)), hs⟩
          · replace h := h.2 hc
            refine S.val hf hs (v := .string (ba s_)) rfl rfl rfl (V.pure rfl) (fun a hf => ?_)
            refine S.call hf rfl rfl rfl (call_fn (vs := [.string (ba s_), .string (ba [48, 49, 50, 51, 52, 53, 54, 55, 56, 57])]) rfl rfl rfl Tryz.call142) (R_strings_Trim s_ [48, 49, 50, 51, 52, 53, 54, 55, 56, 57] _  _ h) (fun v a w' hf hr => ?_)
            obtain ⟨y3, rfl, h2, hs2⟩ := hr
            replace h := h2; replace hs := hs.call hs2; clear h2 hs2
            refine S.val hf hs (v := .bool (!(y3 == []))) rfl rfl rfl (V.strCmp (!(y3 == [])) rfl rfl rfl rfl) (fun a hf => ?_)
            refine S.val hf hs (v := .bool (!(y3 == []))) rfl rfl rfl (V.pure rfl) (fun a hf => ?_)
            refine R.nil ?_
            refine X.then_ ?_
            exact ⟨(!(y3 == [])), h, ((hf.nil.cons (hf.get 27 _ rfl)).cons (hf.get 0 _ rfl)), hs⟩
        · replace h := h.2 hc
          refine S.skip hf rfl rfl rfl (fun a hf => ?_)
          refine S.skip hf rfl rfl rfl (fun a hf => ?_)
          refine S.skip hf rfl rfl rfl (fun a hf => ?_)
          refine S.val hf hs (v := .bool false) rfl rfl rfl (V.pure rfl) (fun a hf => ?_)
          refine S.val hf hs (v := .bool false) rfl rfl rfl (V.pure rfl) (fun a hf => ?_)
          refine S.val hf hs (v := .bool false) rfl rfl rfl (V.pure rfl) (fun a hf => ?_)
          refine S.val hf hs (v := .string (ba s_)) rfl rfl rfl (V.pure rfl) (fun a hf => ?_)
          refine S.call hf rfl rfl rfl (call_fn (vs := [.string (ba s_), .string (ba [48, 49, 50, 51, 52, 53, 54, 55, 56, 57])]) rfl rfl rfl Tryz.call142) (R_strings_Trim s_ [48, 49, 50, 51, 52, 53, 54, 55, 56, 57] _  _ h) (fun v a w' hf hr => ?_)
          obtain ⟨y4, rfl, h2, hs2⟩ := hr
          replace h := h2; replace hs := hs.call hs2; clear h2 hs2
          refine S.val hf hs (v := .bool (!(y4 == []))) rfl rfl rfl (V.strCmp (!(y4 == [])) rfl rfl rfl rfl) (fun a hf => ?_)
          refine S.val hf hs (v := .bool (!(y4 == []))) rfl rfl rfl (V.pure rfl) (fun a hf => ?_)
          refine R.nil ?_
          refine X.then_ ?_
          exact ⟨(!(y4 == [])), h, ((hf.nil.cons (hf.get 27 _ rfl)).cons (hf.get 0 _ rfl)), hs⟩

set_option linter.unusedVariables false
def M_ref8_signed (s_ : Str) (Q : Int → Bool → Prop) : Prop :=
  M_strings_CutPrefix s_ [45] fun y1 y2 => M_ref8_number y1 fun y3 y4 => cnd (!y2) (Q y3 y4) (cnd y4 (Q (w64 (-y3)) (y3 != 0)) (Q (w64 (-y3)) false))
set_option maxHeartbeats 1000000 in
theorem R_ref8_signed (s_ : Str) (w0 : World)  (Q : Int → Bool → Prop) (h : M_ref8_signed s_ Q) :
    Ret Tryz.prog 108 #[.string (ba s_)] w0 fun v w' => ∃ (r0 : Int) (r1 : Bool), v = .tuple #[.int .i64 r0, .bool r1] ∧ Q r0 r1 ∧ Sat w0 none_ [] w' := by
  refine fn_enter Tryz.func108 rfl Tryz.ntmps108 rfl (fs := [(0, .string (ba s_))]) rfl (fun a hf => ?_)
  have hs := Sat.start w0 none_
  unfold M_ref8_signed at h
  refine wp_seq ?_
  refine R.list ?_
  refine S.val hf hs (v := .int .i64 0) rfl rfl rfl (V.pure rfl) (fun a hf => ?_)
  refine S.val hf hs (v := .bool false) rfl rfl rfl (V.pure rfl) (fun a hf => ?_)
  refine R.nil ?_
  refine X.then_ ?_
  refine wp_seq ?_
  refine R.list ?_
  refine S.val hf hs (v := .string (ba s_)) rfl rfl rfl (V.pure rfl) (fun a hf => ?_)
  refine S.call hf rfl rfl rfl (call_fn (vs := [.string (ba s_), .string (ba [45])]) rfl rfl rfl Tryz.call161) (R_strings_CutPrefix s_ [45] _  _ h) (fun v a w' hf hr => ?_)
  obtain ⟨y1, y2, rfl, h2, hs2⟩ := hr
  replace h := h2; replace hs := hs.call hs2; clear h2 hs2
  refine S.val hf hs (v := .tuple #[.string (ba y1), .bool y2]) rfl rfl rfl (V.pure rfl) (fun a hf => ?_)
  refine S.val hf hs (v := .string (ba y1)) rfl rfl rfl (V.pure rfl) (fun a hf => ?_)
  refine S.val hf hs (v := .bool y2) rfl rfl rfl (V.pure rfl) (fun a hf => ?_)
  refine S.val hf hs (v := .string (ba y1)) rfl rfl rfl (V.pure rfl) (fun a hf => ?_)
  refine S.val hf hs (v := .bool y2) rfl rfl rfl (V.pure rfl) (fun a hf => ?_)
  refine R.nil ?_
  refine X.then_ ?_
  refine wp_seq ?_
  refine R.list ?_
  refine S.val hf hs (v := .string (ba y1)) rfl rfl rfl (V.pure rfl) (fun a hf => ?_)
  refine S.call hf rfl rfl rfl (call_fn (vs := [.string (ba y1)]) rfl rfl rfl Tryz.call107) (R_ref8_number y1 _  _ h) (fun v a w' hf hr => ?_)
  obtain ⟨y3, y4, rfl, h2, hs2⟩ := hr
  replace h := h2; replace hs := hs.call hs2; clear h2 hs2
  refine S.val hf hs (v := .tuple #[.int .i64 y3, .bool y4]) rfl rfl rfl (V.pure rfl) (fun a hf => ?_)
  refine S.val hf hs (v := .int .i64 y3) rfl rfl rfl (V.pure rfl) (fun a hf => ?_)
  refine S.val hf hs (v := .bool y4) rfl rfl rfl (V.pure rfl) (fun a hf => ?_)
  refine S.val hf hs (v := .int .i64 y3) rfl rfl rfl (V.pure rfl) (fun a hf => ?_)
  refine S.val hf hs (v := .bool y4) rfl rfl rfl (V.pure rfl) (fun a hf => ?_)
  refine R.nil ?_
  refine X.then_ ?_
  refine wp_seq ?_
  refine wp_seq ?_
  refine R.list ?_
  refine S.val hf hs (v := .bool y2) rfl rfl rfl (V.pure rfl) (fun a hf => ?_)
  refine S.val hf hs (v := .bool (!y2)) rfl rfl rfl (V.pure rfl) (fun a hf => ?_)
  refine R.nil ?_
  refine X.then_ ?_
  refine C.cond hf (b := !y2) rfl (fun hc => ?_) (fun hc => ?_)
  · replace h := h.1 hc
    refine wp_seq ?_
    refine R.list ?_
    refine S.val hf hs (v := .int .i64 y3) rfl rfl rfl (V.pure rfl) (fun a hf => ?_)
    refine S.val hf hs (v := .bool y4) rfl rfl rfl (V.pure rfl) (fun a hf => ?_)
    refine S.val hf hs (v := .int .i64 y3) rfl rfl rfl (V.pure rfl) (fun a hf => ?_)
    refine S.val hf hs (v := .bool y4) rfl rfl rfl (V.pure rfl) (fun a hf => ?_)
    refine R.nil ?_
    refine X.then_ ?_
    refine wp_ret ?_
    refine X.then_ret ?_
    exact L.ret hf (run_results2 Tryz.results108 (ResIs.tmp hf rfl) (ResIs.tmp hf rfl)) ⟨y3, y4, rfl, h, hs.nil⟩
  · replace h := h.2 hc
    refine wp_skip ?_
    refine X.then_ ?_
    refine wp_seq ?_
    refine R.list ?_
    refine S.val hf hs (v := .int .i64 y3) rfl rfl rfl (V.pure rfl) (fun a hf => ?_)
    refine S.val hf hs (v := .int .i64 (w64 (-y3))) rfl rfl rfl (V.pure rfl) (fun a hf => ?_)
    refine S.val hf hs (v := .bool y4) rfl rfl rfl (V.pure rfl) (fun a hf => ?_)
    refine S.split hf hs (b := y4) rfl rfl rfl (V.pure rfl) (fun hc a hf => ?_) (fun hc a hf => ?_)
    · replace h := h.1 hc
      refine S.val hf hs (v := .int .i64 y3) rfl rfl rfl (V.pure rfl) (fun a hf => ?_)
      refine S.val hf hs (v := .bool (y3 != 0)) rfl rfl rfl (V.pure rfl) (fun a hf => ?_)
      refine S.val hf hs (v := .bool (y3 != 0)) rfl rfl rfl (V.pure rfl) (fun a hf => ?_)
      refine S.val hf hs (v := .int .i64 (w64 (-y3))) rfl rfl rfl (V.pure rfl) (fun a hf => ?_)
      refine S.val hf hs (v := .bool (y3 != 0)) rfl rfl rfl (V.pure rfl) (fun a hf => ?_)
      refine R.nil ?_
      refine X.then_ ?_
      refine wp_ret ?_
      exact L.ret hf (run_results2 Tryz.results108 (ResIs.tmp hf rfl) (ResIs.tmp hf rfl)) ⟨(w64 (-y3)), (y3 != 0), rfl, h, hs.nil⟩
    · replace h := h.2 hc
      refine S.skip hf rfl rfl rfl (fun a hf => ?_)
      refine S.skip hf rfl rfl rfl (fun a hf => ?_)
      refine S.val hf hs (v := .bool false) rfl rfl rfl (V.pure rfl) (fun a hf => ?_)
      refine S.val hf hs (v := .int .i64 (w64 (-y3))) rfl rfl rfl (V.pure rfl) (fun a hf => ?_)
      refine S.val hf hs (v := .bool false) rfl rfl rfl (V.pure rfl) (fun a hf => ?_)
      refine R.nil ?_
      refine X.then_ ?_
      refine wp_ret ?_
      exact L.ret hf (run_results2 Tryz.results108 (ResIs.tmp hf rfl) (ResIs.tmp hf rfl)) ⟨(w64 (-y3)), false, rfl, h, hs.nil⟩

set_option linter.unusedVariables false
def M_ref8_isRow_k2 (Q : Bool → Prop) (n2 : Int) (again1 : Int → Prop) (c1 : Bool) : Prop :=
  cnd c1 (Q false) (again1 (w64 (n2 + 1)))
def M_ref8_isRow_L1 (s_ : Str) (Q : Bool → Prop) (again1 : Int → Prop) (n2 : Int) : Prop :=
  cnd (decide (n2 < (s_.length : Int))) (idx s_ n2 fun x1 => cnd (decide ((x1.toNat : Int) < 33)) (M_ref8_isRow_k2 Q n2 again1 true) (M_ref8_isRow_k2 Q n2 again1 (decide ((x1.toNat : Int) > 126)))) (Q (!(s_ == [])))
def M_ref8_isRow (s_ : Str) (Q : Bool → Prop) : Prop :=
  lp (fun again (s : Int) => M_ref8_isRow_L1 s_ Q (fun n2 => again n2) s) 0
set_option maxHeartbeats 1000000 in
theorem R_ref8_isRow (s_ : Str) (w0 : World)  (Q : Bool → Prop) (h : M_ref8_isRow s_ Q) :
    Ret Tryz.prog 49 #[.string (ba s_)] w0 fun v w' => ∃ (r0 : Bool), v = .bool r0 ∧ Q r0 ∧ Sat w0 none_ [] w' := by
  refine fn_enter Tryz.func49 rfl Tryz.ntmps49 rfl (fs := [(0, .string (ba s_))]) rfl (fun a hf => ?_)
  have hs := Sat.start w0 none_
  unfold M_ref8_isRow at h
  refine wp_seq ?_
  refine R.list ?_
  refine S.val hf hs (v := .bool false) rfl rfl rfl (V.pure rfl) (fun a hf => ?_)
  refine R.nil ?_
  refine X.then_ ?_
  refine wp_seq ?_
  refine wp_seq ?_
  refine R.list ?_
  refine S.val hf hs (v := .string (ba s_)) rfl rfl rfl (V.pure rfl) (fun a hf => ?_)
  refine S.val hf hs (v := .int .i64 (s_.length : Int)) rfl rfl rfl (V.lenStr rfl rfl Tryz.runUnderlying9) (fun a hf => ?_)
  refine S.val hf hs (v := .int .i64 0) rfl rfl rfl (V.pure rfl) (fun a hf => ?_)
  refine R.nil ?_
  refine X.then_ ?_
  refine wp_block ?_
  obtain ⟨kk, h⟩ := h
  refine C.loop (fun kk a w => ∃ (n2 : Int), iterF (fun again (s : Int) => M_ref8_isRow_L1 s_ Q (fun n2 => again n2) s) kk n2 ∧ FrOk 22 [(0, .string (ba s_)), (5, .int .i64 (s_.length : Int)), (6, .int .i64 n2)] a ∧ Sat w0 none_ [] w) kk ⟨0, h, (((hf.nil.cons (hf.get 6 _ rfl)).cons (hf.get 5 _ rfl)).cons (hf.get 0 _ rfl)), hs⟩ (fun a w ⟨_, h, _, _⟩ => h) ?_
  clear h hf hs
  rintro kk a w ⟨n2, h, hf, hs⟩
  obtain ⟨again1, hagain1⟩ : ∃ X : Int → Prop, X = (fun n2 => iterF (fun again (s : Int) => M_ref8_isRow_L1 s_ Q (fun n2 => again n2) s) kk n2) := ⟨_, rfl⟩
  replace h : M_ref8_isRow_L1 s_ Q again1 n2 := by rw [hagain1]; exact h
  unfold M_ref8_isRow_L1 at h
  refine wp_seq ?_
  refine R.list ?_
  refine S.val hf hs (v := .bool (decide (n2 < (s_.length : Int)))) rfl rfl rfl (V.pure rfl) (fun a hf => ?_)
  refine R.nil ?_
  refine X.then_ ?_
  refine wp_seq ?_
  refine C.cond hf (b := decide (n2 < (s_.length : Int))) rfl (fun hc => ?_) (fun hc => ?_)
  · replace h := h.1 hc
    refine wp_skip ?_
    refine X.then_ ?_
    refine wp_seq ?_
    refine wp_block ?_
    refine wp_seq ?_
    refine R.list ?_
    refine S.val hf hs (v := .int .i64 n2) rfl rfl rfl (V.pure rfl) (fun a hf => ?_)
    refine S.val hf hs (v := .int .i64 n2) rfl rfl rfl (V.pure rfl) (fun a hf => ?_)
    refine R.nil ?_
    refine X.then_ ?_
    refine wp_seq ?_
    refine C.cut (J := fun a w => ∃ (c1 : Bool), M_ref8_isRow_k2 Q n2 again1 c1 ∧ FrOk 22 [(0, .string (ba s_)), (5, .int .i64 (s_.length : Int)), (6, .int .i64 n2), (18, .bool c1)] a ∧ Sat w0 none_ [] w) ?_ ?_
    · rintro a w ⟨c1, h, hf, hs⟩
      unfold M_ref8_isRow_k2 at h
      refine C.cond hf (b := c1) rfl (fun hc => ?_) (fun hc => ?_)
      · replace h := h.1 hc
        refine wp_seq ?_
        refine R.list ?_
        refine S.val hf hs (v := .bool false) rfl rfl rfl (V.pure rfl) (fun a hf => ?_)
        refine R.nil ?_
        refine X.then_ ?_
        refine wp_ret ?_
        refine X.blk_ret ?_
        refine X.then_ret ?_
        refine X.then_ret ?_
        refine X.blk_ret ?_
        refine X.then_ret ?_
        exact L.ret hf (run_results1 Tryz.results49 (ResIs.tmp hf rfl)) ⟨false, rfl, h, hs.nil⟩
      · replace h := h.2 hc
        refine wp_skip ?_
        refine X.blk ?_
        refine X.then_ ?_
        refine R.list ?_
        refine S.val hf hs (v := .int .i64 (w64 (n2 + 1))) rfl rfl rfl (V.pure rfl) (fun a hf => ?_)
        refine S.val hf hs (v := .int .i64 (w64 (n2 + 1))) rfl rfl rfl (V.pure rfl) (fun a hf => ?_)
        refine R.nil ?_
        refine X.then_ ?_
        exact ⟨(w64 (n2 + 1)), (by rw [hagain1] at h; exact h), (((hf.nil.cons (hf.get 6 _ rfl)).cons (hf.get 5 _ rfl)).cons (hf.get 0 _ rfl)), hs⟩
    · skip
      refine R.list ?_
      refine S.val hf hs (v := .string (ba s_)) rfl rfl rfl (V.pure rfl) (fun a hf => ?_)
      refine S.val hf hs (v := .int .i64 n2) rfl rfl rfl (V.pure rfl) (fun a hf => ?_)
      obtain ⟨h0x1, x1, hx1, h⟩ := h
      refine S.val hf hs (v := .int .u8 (x1.toNat : Int)) rfl rfl rfl (V.indexStr rfl rfl rfl Tryz.runUnderlying9 h0x1 hx1) (fun a hf => ?_)
      refine S.val hf hs (v := .bool (decide ((x1.toNat : Int) < 33))) rfl rfl rfl (V.pure rfl) (fun a hf => ?_)
      refine S.split hf hs (b := decide ((x1.toNat : Int) < 33)) rfl rfl rfl (V.pure rfl) (fun hc a hf => ?_) (fun hc a hf => ?_)
      · replace h := h.1 hc
        refine S.skip hf rfl rfl rfl (fun a hf => ?_)
        refine S.skip hf rfl rfl rfl (fun a hf => ?_)
        refine S.skip hf rfl rfl rfl (fun a hf => ?_)
        refine S.skip hf rfl rfl rfl (fun a hf => ?_)
        refine S.val hf hs (v := .bool true) rfl rfl rfl (V.pure rfl) (fun a hf => ?_)
        refine R.nil ?_
        refine X.then_ ?_
        exact ⟨true, h, ((((hf.nil.cons (hf.get 18 _ rfl)).cons (hf.get 6 _ rfl)).cons (hf.get 5 _ rfl)).cons (hf.get 0 _ rfl)), hs⟩
      · replace h := h.2 hc
        refine S.val hf hs (v := .string (ba s_)) rfl rfl rfl (V.pure rfl) (fun a hf => ?_)
        refine S.val hf hs (v := .int .i64 n2) rfl rfl rfl (V.pure rfl) (fun a hf => ?_)
        refine S.val hf hs (v := .int .u8 (x1.toNat : Int)) rfl rfl rfl (V.indexStr rfl rfl rfl Tryz.runUnderlying9 h0x1 hx1) (fun a hf => ?_)
        refine S.val hf hs (v := .bool (decide ((x1.toNat : Int) > 126))) rfl rfl rfl (V.pure rfl) (fun a hf => ?_)
        refine S.val hf hs (v := .bool (decide ((x1.toNat : Int) > 126))) rfl rfl rfl (V.pure rfl) (fun a hf => ?_)
        refine R.nil ?_
        refine X.then_ ?_
        exact ⟨(decide ((x1.toNat : Int) > 126)), h, ((((hf.nil.cons (hf.get 18 _ rfl)).cons (hf.get 6 _ rfl)).cons (hf.get 5 _ rfl)).cons (hf.get 0 _ rfl)), hs⟩
  · replace h := h.2 hc
    refine wp_exit ?_
    refine X.then_exit ?_
    refine X.then_exit ?_
    refine X.blk_exit ?_
    refine X.then_ ?_
    refine wp_seq ?_
    refine R.list ?_
    refine S.val hf hs (v := .string (ba s_)) rfl rfl rfl (V.pure rfl) (fun a hf => ?_)
    refine S.val hf hs (v := .bool (!(s_ == []))) rfl rfl rfl (V.strCmp (!(s_ == [])) rfl rfl rfl rfl) (fun a hf => ?_)
    refine S.val hf hs (v := .bool (!(s_ == []))) rfl rfl rfl (V.pure rfl) (fun a hf => ?_)
    refine R.nil ?_
    refine X.then_ ?_
    refine wp_ret ?_
    exact L.ret hf (run_results1 Tryz.results49 (ResIs.tmp hf rfl)) ⟨(!(s_ == [])), rfl, h, hs.nil⟩

set_option linter.unusedVariables false
def M_ref8_readTool_k1 (w_ : (List Str)) (Q : Bit → Bool → Prop) (c1 : Bool) : Prop :=
  cnd c1 (Q (⟨[], 0, 0, 0⟩ : Bit) false) (idx w_ 2 fun x1 => M_ref8_number x1 fun y1 y2 => idx w_ 3 fun x2 => M_ref8_number x2 fun y3 y4 => idx w_ 4 fun x3 => M_ref8_number x3 fun y5 y6 => idx w_ 1 fun x4 => cnd y2 (cnd y4 (Q (⟨x4, y1, y3, y5⟩ : Bit) y6) (Q (⟨x4, y1, y3, y5⟩ : Bit) false)) (Q (⟨x4, y1, y3, y5⟩ : Bit) false))
def M_ref8_readTool (w_ : (List Str)) (Q : Bit → Bool → Prop) : Prop :=
  cnd ((w_.length : Int) != 5) (M_ref8_readTool_k1 w_ Q true) (idx w_ 1 fun x5 => M_ref8_isRow x5 fun y7 => M_ref8_readTool_k1 w_ Q (!y7))
set_option maxHeartbeats 1000000 in
theorem R_ref8_readTool (w_ : (List Str)) (w0 : World) (w_A : Option Addr) (w_C : Nat) (hv_w_ : View w0 (old w0 none_) w_A w_C w_) (Q : Bit → Bool → Prop) (h : M_ref8_readTool w_ Q) :
    Ret Tryz.prog 48 #[.slice w_A w_.length w_C] w0 fun v w' => ∃ (r0 : Bit) (r1 : Bool), v = .tuple #[.agg #[.string (ba r0.Name), .int .i64 r0.Size, .int .i64 r0.Life, .int .i64 r0.Stack], .bool r1] ∧ Q r0 r1 ∧ Sat w0 none_ [] w' := by
  refine fn_enter Tryz.func48 rfl Tryz.ntmps48 rfl (fs := [(0, .slice w_A w_.length w_C)]) rfl (fun a hf => ?_)
  have hs := Sat.start w0 none_
  unfold M_ref8_readTool at h
  refine wp_seq ?_
  refine R.list ?_
  refine S.alloc hf hs rfl rfl rfl [.string (ba []), .int .i64 0, .int .i64 0, .int .i64 0] rfl Tryz.zeroValue41 rfl (fun g1 a w hf hs => ?_)
  refine S.val hf hs (v := .bool false) rfl rfl rfl (V.pure rfl) (fun a hf => ?_)
  refine R.nil ?_
  refine X.then_ ?_
  refine wp_seq ?_
  refine wp_seq ?_
  refine C.cut (J := fun a w => ∃ (c1 : Bool), M_ref8_readTool_k1 w_ Q c1 ∧ FrOk 56 [(0, .slice w_A w_.length w_C), (2, .pointer (some ⟨g1, 0, none⟩)), (19, .bool c1)] a ∧ Sat w0 none_ [hbox g1 41 [.string (ba []), .int .i64 0, .int .i64 0, .int .i64 0]] w) ?_ ?_
  · rintro a w ⟨c1, h, hf, hs⟩
    unfold M_ref8_readTool_k1 at h
    refine C.cond hf (b := c1) rfl (fun hc => ?_) (fun hc => ?_)
    · replace h := h.1 hc
      refine wp_seq ?_
      refine R.list ?_
      refine S.val hf hs (v := .agg #[.string (ba []), .int .i64 0, .int .i64 0, .int .i64 0]) rfl rfl rfl (V.build (places := #[(0, 1), (1, 1), (2, 1), (3, 1)]) rfl Tryz.zeroValue41 Tryz.runUnderlying41 (by intro w; simp [Tryz.sizeOf3, Tryz.sizeOf9]) rfl rfl) (fun a hf => ?_)
      refine S.storeBox 0 hf hs rfl rfl [.string (ba []), .int .i64 0, .int .i64 0, .int .i64 0] [.string (ba []), .int .i64 0, .int .i64 0, .int .i64 0] rfl rfl rfl rfl rfl Tryz.sizeOf41 rfl rfl rfl rfl (fun a w hf hs => ?_)
      refine S.val hf hs (v := .bool false) rfl rfl rfl (V.pure rfl) (fun a hf => ?_)
      refine R.nil ?_
      refine X.then_ ?_
      refine wp_ret ?_
      refine X.then_ret ?_
      exact L.ret hf (run_results2 Tryz.results48 (ResIs.box hf hs 0 rfl rfl Tryz.isAgg41 Tryz.sizeOf41 rfl rfl) (ResIs.tmp hf rfl)) ⟨(⟨[], 0, 0, 0⟩ : Bit), false, rfl, h, hs.nil⟩
    · replace h := h.2 hc
      refine wp_skip ?_
      refine X.then_ ?_
      refine wp_seq ?_
      refine R.list ?_
      refine S.val hf hs (v := .slice w_A w_.length w_C) rfl rfl rfl (V.pure rfl) (fun a hf => ?_)
      obtain ⟨h0x1, x1, hx1, h⟩ := h
      refine S.val hf hs (v := elemPtr w_A (2 * 1)) rfl rfl rfl (V.index rfl rfl rfl Tryz.runUnderlying74 Tryz.sizeOf9 (hv_w_.some_ (lt_of_get hx1)) h0x1 (lt_of_get hx1) rfl) (fun a hf => ?_)
      refine S.val hf hs (v := .string (ba x1)) rfl rfl rfl (V.loadEl (off := 0) (Ag.args _ _ _) (hv_w_.flat hx1) rfl rfl rfl Tryz.isAgg9 Tryz.sizeOf9 rfl rfl) (fun a hf => ?_)
      refine S.call hf rfl rfl rfl (call_fn (vs := [.string (ba x1)]) rfl rfl rfl Tryz.call107) (R_ref8_number x1 _  _ h) (fun v a w' hf hr => ?_)
      obtain ⟨y1, y2, rfl, h2, hs2⟩ := hr
      replace h := h2; replace hs := hs.call hs2; clear h2 hs2
      refine S.val hf hs (v := .tuple #[.int .i64 y1, .bool y2]) rfl rfl rfl (V.pure rfl) (fun a hf => ?_)
      refine S.val hf hs (v := .int .i64 y1) rfl rfl rfl (V.pure rfl) (fun a hf => ?_)
      refine S.val hf hs (v := .bool y2) rfl rfl rfl (V.pure rfl) (fun a hf => ?_)
      refine S.val hf hs (v := .int .i64 y1) rfl rfl rfl (V.pure rfl) (fun a hf => ?_)
      refine S.val hf hs (v := .bool y2) rfl rfl rfl (V.pure rfl) (fun a hf => ?_)
      refine R.nil ?_
      refine X.then_ ?_
      refine wp_seq ?_
      refine R.list ?_
      refine S.val hf hs (v := .slice w_A w_.length w_C) rfl rfl rfl (V.pure rfl) (fun a hf => ?_)
      obtain ⟨h0x2, x2, hx2, h⟩ := h
      refine S.val hf hs (v := elemPtr w_A (3 * 1)) rfl rfl rfl (V.index rfl rfl rfl Tryz.runUnderlying74 Tryz.sizeOf9 (hv_w_.some_ (lt_of_get hx2)) h0x2 (lt_of_get hx2) rfl) (fun a hf => ?_)
      refine S.val hf hs (v := .string (ba x2)) rfl rfl rfl (V.loadEl (off := 0) (Ag.args _ _ _) (hv_w_.flat hx2) rfl rfl rfl Tryz.isAgg9 Tryz.sizeOf9 rfl rfl) (fun a hf => ?_)
      refine S.call hf rfl rfl rfl (call_fn (vs := [.string (ba x2)]) rfl rfl rfl Tryz.call107) (R_ref8_number x2 _  _ h) (fun v a w' hf hr => ?_)
      obtain ⟨y3, y4, rfl, h2, hs2⟩ := hr
      replace h := h2; replace hs := hs.call hs2; clear h2 hs2
      refine S.val hf hs (v := .tuple #[.int .i64 y3, .bool y4]) rfl rfl rfl (V.pure rfl) (fun a hf => ?_)
      refine S.val hf hs (v := .int .i64 y3) rfl rfl rfl (V.pure rfl) (fun a hf => ?_)
      refine S.val hf hs (v := .bool y4) rfl rfl rfl (V.pure rfl) (fun a hf => ?_)
      refine S.val hf hs (v := .int .i64 y3) rfl rfl rfl (V.pure rfl) (fun a hf => ?_)
      refine S.val hf hs (v := .bool y4) rfl rfl rfl (V.pure rfl) (fun a hf => ?_)
      refine R.nil ?_
      refine X.then_ ?_
      refine wp_seq ?_
      refine R.list ?_
      refine S.val hf hs (v := .slice w_A w_.length w_C) rfl rfl rfl (V.pure rfl) (fun a hf => ?_)
      obtain ⟨h0x3, x3, hx3, h⟩ := h
      refine S.val hf hs (v := elemPtr w_A (4 * 1)) rfl rfl rfl (V.index rfl rfl rfl Tryz.runUnderlying74 Tryz.sizeOf9 (hv_w_.some_ (lt_of_get hx3)) h0x3 (lt_of_get hx3) rfl) (fun a hf => ?_)
      refine S.val hf hs (v := .string (ba x3)) rfl rfl rfl (V.loadEl (off := 0) (Ag.args _ _ _) (hv_w_.flat hx3) rfl rfl rfl Tryz.isAgg9 Tryz.sizeOf9 rfl rfl) (fun a hf => ?_)
      refine S.call hf rfl rfl rfl (call_fn (vs := [.string (ba x3)]) rfl rfl rfl Tryz.call107) (R_ref8_number x3 _  _ h) (fun v a w' hf hr => ?_)
      obtain ⟨y5, y6, rfl, h2, hs2⟩ := hr
      replace h := h2; replace hs := hs.call hs2; clear h2 hs2
      refine S.val hf hs (v := .tuple #[.int .i64 y5, .bool y6]) rfl rfl rfl (V.pure rfl) (fun a hf => ?_)
      refine S.val hf hs (v := .int .i64 y5) rfl rfl rfl (V.pure rfl) (fun a hf => ?_)
      refine S.val hf hs (v := .bool y6) rfl rfl rfl (V.pure rfl) (fun a hf => ?_)
      refine S.val hf hs (v := .int .i64 y5) rfl rfl rfl (V.pure rfl) (fun a hf => ?_)
      refine S.val hf hs (v := .bool y6) rfl rfl rfl (V.pure rfl) (fun a hf => ?_)
      refine R.nil ?_
      refine X.then_ ?_
      refine wp_seq ?_
      refine R.list ?_
      refine S.val hf hs (v := .slice w_A w_.length w_C) rfl rfl rfl (V.pure rfl) (fun a hf => ?_)
      obtain ⟨h0x4, x4, hx4, h⟩ := h
      refine S.val hf hs (v := elemPtr w_A (1 * 1)) rfl rfl rfl (V.index rfl rfl rfl Tryz.runUnderlying74 Tryz.sizeOf9 (hv_w_.some_ (lt_of_get hx4)) h0x4 (lt_of_get hx4) rfl) (fun a hf => ?_)
      refine S.val hf hs (v := .string (ba x4)) rfl rfl rfl (V.loadEl (off := 0) (Ag.args _ _ _) (hv_w_.flat hx4) rfl rfl rfl Tryz.isAgg9 Tryz.sizeOf9 rfl rfl) (fun a hf => ?_)
      refine S.val hf hs (v := .int .i64 y1) rfl rfl rfl (V.pure rfl) (fun a hf => ?_)
      refine S.val hf hs (v := .int .i64 y3) rfl rfl rfl (V.pure rfl) (fun a hf => ?_)
      refine S.val hf hs (v := .int .i64 y5) rfl rfl rfl (V.pure rfl) (fun a hf => ?_)
      refine S.val hf hs (v := .agg #[.string (ba x4), .int .i64 y1, .int .i64 y3, .int .i64 y5]) rfl rfl rfl (V.build (places := #[(0, 1), (1, 1), (2, 1), (3, 1)]) rfl Tryz.zeroValue41 Tryz.runUnderlying41 (by intro w; simp [Tryz.sizeOf3, Tryz.sizeOf9]) rfl rfl) (fun a hf => ?_)
      refine S.val hf hs (v := .bool y2) rfl rfl rfl (V.pure rfl) (fun a hf => ?_)
      refine S.split hf hs (b := y2) rfl rfl rfl (V.pure rfl) (fun hc a hf => ?_) (fun hc a hf => ?_)
      · replace h := h.1 hc
        refine S.val hf hs (v := .bool y4) rfl rfl rfl (V.pure rfl) (fun a hf => ?_)
        refine S.val hf hs (v := .bool y4) rfl rfl rfl (V.pure rfl) (fun a hf => ?_)
        refine S.split hf hs (b := y4) rfl rfl rfl (V.pure rfl) (fun hc a hf => ?_) (fun hc a hf => ?_)
        · replace h := h.1 hc
          refine S.val hf hs (v := .bool y6) rfl rfl rfl (V.pure rfl) (fun a hf => ?_)
          refine S.val hf hs (v := .bool y6) rfl rfl rfl (V.pure rfl) (fun a hf => ?_)
          refine S.storeBox 0 hf hs rfl rfl [.string (ba x4), .int .i64 y1, .int .i64 y3, .int .i64 y5] [.string (ba x4), .int .i64 y1, .int .i64 y3, .int .i64 y5] rfl rfl rfl rfl rfl Tryz.sizeOf41 rfl rfl rfl rfl (fun a w hf hs => ?_)
          refine S.val hf hs (v := .bool y6) rfl rfl rfl (V.pure rfl) (fun a hf => ?_)
          refine R.nil ?_
          refine X.then_ ?_
          refine wp_ret ?_
          exact L.ret hf (run_results2 Tryz.results48 (ResIs.box hf hs 0 rfl rfl Tryz.isAgg41 Tryz.sizeOf41 rfl rfl) (ResIs.tmp hf rfl)) ⟨(⟨x4, y1, y3, y5⟩ : Bit), y6, rfl, h, hs.nil⟩
        · replace h := h.2 hc
          refine S.skip hf rfl rfl rfl (fun a hf => ?_)
          refine S.val hf hs (v := .bool false) rfl rfl rfl (V.pure rfl) (fun a hf => ?_)
          refine S.storeBox 0 hf hs rfl rfl [.string (ba x4), .int .i64 y1, .int .i64 y3, .int .i64 y5] [.string (ba x4), .int .i64 y1, .int .i64 y3, .int .i64 y5] rfl rfl rfl rfl rfl Tryz.sizeOf41 rfl rfl rfl rfl (fun a w hf hs => ?_)
          refine S.val hf hs (v := .bool false) rfl rfl rfl (V.pure rfl) (fun a hf => ?_)
          refine R.nil ?_
          refine X.then_ ?_
          refine wp_ret ?_
          exact L.ret hf (run_results2 Tryz.results48 (ResIs.box hf hs 0 rfl rfl Tryz.isAgg41 Tryz.sizeOf41 rfl rfl) (ResIs.tmp hf rfl)) ⟨(⟨x4, y1, y3, y5⟩ : Bit), false, rfl, h, hs.nil⟩
      · replace h := h.2 hc
        refine S.skip hf rfl rfl rfl (fun a hf => ?_)
        refine S.val hf hs (v := .bool false) rfl rfl rfl (V.pure rfl) (fun a hf => ?_)
        refine S.val hf hs (v := .bool false) rfl rfl rfl (V.pure rfl) (fun a hf => ?_)
        refine S.skip hf rfl rfl rfl (fun a hf => ?_)
        refine S.val hf hs (v := .bool false) rfl rfl rfl (V.pure rfl) (fun a hf => ?_)
        refine S.storeBox 0 hf hs rfl rfl [.string (ba x4), .int .i64 y1, .int .i64 y3, .int .i64 y5] [.string (ba x4), .int .i64 y1, .int .i64 y3, .int .i64 y5] rfl rfl rfl rfl rfl Tryz.sizeOf41 rfl rfl rfl rfl (fun a w hf hs => ?_)
        refine S.val hf hs (v := .bool false) rfl rfl rfl (V.pure rfl) (fun a hf => ?_)
        refine R.nil ?_
        refine X.then_ ?_
        refine wp_ret ?_
        exact L.ret hf (run_results2 Tryz.results48 (ResIs.box hf hs 0 rfl rfl Tryz.isAgg41 Tryz.sizeOf41 rfl rfl) (ResIs.tmp hf rfl)) ⟨(⟨x4, y1, y3, y5⟩ : Bit), false, rfl, h, hs.nil⟩
  · skip
    refine R.list ?_
    refine S.val hf hs (v := .slice w_A w_.length w_C) rfl rfl rfl (V.pure rfl) (fun a hf => ?_)
    refine S.val hf hs (v := .int .i64 (w_.length : Int)) rfl rfl rfl (V.len rfl rfl Tryz.runUnderlying74) (fun a hf => ?_)
    refine S.val hf hs (v := .bool ((w_.length : Int) != 5)) rfl rfl rfl (V.pure rfl) (fun a hf => ?_)
    refine S.split hf hs (b := (w_.length : Int) != 5) rfl rfl rfl (V.pure rfl) (fun hc a hf => ?_) (fun hc a hf => ?_)
    · replace h := h.1 hc
      refine S.skip hf rfl rfl rfl (fun a hf => ?_)
      refine S.skip hf rfl rfl rfl (fun a hf => ?_)
      refine S.skip hf rfl rfl rfl (fun a hf => ?_)
      refine S.skip hf rfl rfl rfl (fun a hf => ?_)
      refine S.skip hf rfl rfl rfl (fun a hf => ?_)
      refine S.val hf hs (v := .bool true) rfl rfl rfl (V.pure rfl) (fun a hf => ?_)
      refine R.nil ?_
      refine X.then_ ?_
      exact ⟨true, h, (((hf.nil.cons (hf.get 19 _ rfl)).cons (hf.get 2 _ rfl)).cons (hf.get 0 _ rfl)), hs⟩
    · replace h := h.2 hc
      refine S.val hf hs (v := .slice w_A w_.length w_C) rfl rfl rfl (V.pure rfl) (fun a hf => ?_)
      obtain ⟨h0x5, x5, hx5, h⟩ := h
      refine S.val hf hs (v := elemPtr w_A (1 * 1)) rfl rfl rfl (V.index rfl rfl rfl Tryz.runUnderlying74 Tryz.sizeOf9 (hv_w_.some_ (lt_of_get hx5)) h0x5 (lt_of_get hx5) rfl) (fun a hf => ?_)
      refine S.val hf hs (v := .string (ba x5)) rfl rfl rfl (V.loadEl (off := 0) (Ag.args _ _ _) (hv_w_.flat hx5) rfl rfl rfl Tryz.isAgg9 Tryz.sizeOf9 rfl rfl) (fun a hf => ?_)
      refine S.call hf rfl rfl rfl (call_fn (vs := [.string (ba x5)]) rfl rfl rfl Tryz.call49) (R_ref8_isRow x5 _  _ h) (fun v a w' hf hr => ?_)
      obtain ⟨y7, rfl, h2, hs2⟩ := hr
      replace h := h2; replace hs := hs.call hs2; clear h2 hs2
      refine S.val hf hs (v := .bool (!y7)) rfl rfl rfl (V.pure rfl) (fun a hf => ?_)
      refine S.val hf hs (v := .bool (!y7)) rfl rfl rfl (V.pure rfl) (fun a hf => ?_)
      refine R.nil ?_
      refine X.then_ ?_
      exact ⟨(!y7), h, (((hf.nil.cons (hf.get 19 _ rfl)).cons (hf.get 2 _ rfl)).cons (hf.get 0 _ rfl)), hs⟩

set_option linter.unusedVariables false
def M_ref8_readHole_k1 (w_ : (List Str)) (Q : Hole → Bool → Prop) (c1 : Bool) : Prop :=
  cnd c1 (Q (⟨(⟨0, 0⟩ : Point), 0, 0, false⟩ : Hole) false) (idx w_ 1 fun x1 => M_ref8_signed x1 fun y1 y2 => idx w_ 2 fun x2 => M_ref8_signed x2 fun y3 y4 => idx w_ 3 fun x3 => M_ref8_number x3 fun y5 y6 => idx w_ 4 fun x4 => M_ref8_number x4 fun y7 y8 => idx w_ 5 fun x5 => cnd y2 (cnd y4 (cnd y6 (Q (⟨(⟨y1, y3⟩ : Point), y5, y7, x5 == [112]⟩ : Hole) y8) (Q (⟨(⟨y1, y3⟩ : Point), y5, y7, x5 == [112]⟩ : Hole) false)) (Q (⟨(⟨y1, y3⟩ : Point), y5, y7, x5 == [112]⟩ : Hole) false)) (Q (⟨(⟨y1, y3⟩ : Point), y5, y7, x5 == [112]⟩ : Hole) false))
def M_ref8_readHole (w_ : (List Str)) (Q : Hole → Bool → Prop) : Prop :=
  cnd ((w_.length : Int) != 6) (M_ref8_readHole_k1 w_ Q true) (idx w_ 5 fun x6 => cnd (!(x6 == [112])) (M_ref8_readHole_k1 w_ Q (!(x6 == [45]))) (M_ref8_readHole_k1 w_ Q false))
set_option maxHeartbeats 1000000 in
theorem R_ref8_readHole (w_ : (List Str)) (w0 : World) (w_A : Option Addr) (w_C : Nat) (hv_w_ : View w0 (old w0 none_) w_A w_C w_) (Q : Hole → Bool → Prop) (h : M_ref8_readHole w_ Q) :
    Ret Tryz.prog 50 #[.slice w_A w_.length w_C] w0 fun v w' => ∃ (r0 : Hole) (r1 : Bool), v = .tuple #[.agg #[.int .i64 r0.At.X, .int .i64 r0.At.Y, .int .i64 r0.Size, .int .i64 r0.Depth, .bool r0.Plated], .bool r1] ∧ Q r0 r1 ∧ Sat w0 none_ [] w' := by
  refine fn_enter Tryz.func50 rfl Tryz.ntmps50 rfl (fs := [(0, .slice w_A w_.length w_C)]) rfl (fun a hf => ?_)
  have hs := Sat.start w0 none_
  unfold M_ref8_readHole at h
  refine wp_seq ?_
  refine R.list ?_
  refine S.alloc hf hs rfl rfl rfl [.int .i64 0, .int .i64 0, .int .i64 0, .int .i64 0, .bool false] rfl Tryz.zeroValue92 rfl (fun g1 a w hf hs => ?_)
  refine S.val hf hs (v := .bool false) rfl rfl rfl (V.pure rfl) (fun a hf => ?_)
  refine R.nil ?_
  refine X.then_ ?_
  refine wp_seq ?_
  refine wp_seq ?_
  refine C.cut (J := fun a w => ∃ (c1 : Bool), M_ref8_readHole_k1 w_ Q c1 ∧ FrOk 76 [(0, .slice w_A w_.length w_C), (2, .pointer (some ⟨g1, 0, none⟩)), (26, .bool c1)] a ∧ Sat w0 none_ [hbox g1 92 [.int .i64 0, .int .i64 0, .int .i64 0, .int .i64 0, .bool false]] w) ?_ ?_
  · rintro a w ⟨c1, h, hf, hs⟩
    unfold M_ref8_readHole_k1 at h
    refine C.cond hf (b := c1) rfl (fun hc => ?_) (fun hc => ?_)
    · replace h := h.1 hc
      refine wp_seq ?_
      refine R.list ?_
      refine S.val hf hs (v := .agg #[.int .i64 0, .int .i64 0, .int .i64 0, .int .i64 0, .bool false]) rfl rfl rfl (V.build (places := #[(0, 2), (2, 1), (3, 1), (4, 1)]) rfl Tryz.zeroValue92 Tryz.runUnderlying92 (by intro w; simp [Tryz.sizeOf3, Tryz.sizeOf4, Tryz.sizeOf55]) rfl rfl) (fun a hf => ?_)
      refine S.storeBox 0 hf hs rfl rfl [.int .i64 0, .int .i64 0, .int .i64 0, .int .i64 0, .bool false] [.int .i64 0, .int .i64 0, .int .i64 0, .int .i64 0, .bool false] rfl rfl rfl rfl rfl Tryz.sizeOf92 rfl rfl rfl rfl (fun a w hf hs => ?_)
      refine S.val hf hs (v := .bool false) rfl rfl rfl (V.pure rfl) (fun a hf => ?_)
      refine R.nil ?_
      refine X.then_ ?_
      refine wp_ret ?_
      refine X.then_ret ?_
      exact L.ret hf (run_results2 Tryz.results50 (ResIs.box hf hs 0 rfl rfl Tryz.isAgg92 Tryz.sizeOf92 rfl rfl) (ResIs.tmp hf rfl)) ⟨(⟨(⟨0, 0⟩ : Point), 0, 0, false⟩ : Hole), false, rfl, h, hs.nil⟩
    · replace h := h.2 hc
      refine wp_skip ?_
      refine X.then_ ?_
      refine wp_seq ?_
      refine R.list ?_
      refine S.val hf hs (v := .slice w_A w_.length w_C) rfl rfl rfl (V.pure rfl) (fun a hf => ?_)
      obtain ⟨h0x1, x1, hx1, h⟩ := h
      refine S.val hf hs (v := elemPtr w_A (1 * 1)) rfl rfl rfl (V.index rfl rfl rfl Tryz.runUnderlying74 Tryz.sizeOf9 (hv_w_.some_ (lt_of_get hx1)) h0x1 (lt_of_get hx1) rfl) (fun a hf => ?_)
      refine S.val hf hs (v := .string (ba x1)) rfl rfl rfl (V.loadEl (off := 0) (Ag.args _ _ _) (hv_w_.flat hx1) rfl rfl rfl Tryz.isAgg9 Tryz.sizeOf9 rfl rfl) (fun a hf => ?_)
      refine S.call hf rfl rfl rfl (call_fn (vs := [.string (ba x1)]) rfl rfl rfl Tryz.call108) (R_ref8_signed x1 _  _ h) (fun v a w' hf hr => ?_)
      obtain ⟨y1, y2, rfl, h2, hs2⟩ := hr
      replace h := h2; replace hs := hs.call hs2; clear h2 hs2
      refine S.val hf hs (v := .tuple #[.int .i64 y1, .bool y2]) rfl rfl rfl (V.pure rfl) (fun a hf => ?_)
      refine S.val hf hs (v := .int .i64 y1) rfl rfl rfl (V.pure rfl) (fun a hf => ?_)
      refine S.val hf hs (v := .bool y2) rfl rfl rfl (V.pure rfl) (fun a hf => ?_)
      refine S.val hf hs (v := .int .i64 y1) rfl rfl rfl (V.pure rfl) (fun a hf => ?_)
      refine S.val hf hs (v := .bool y2) rfl rfl rfl (V.pure rfl) (fun a hf => ?_)
      refine R.nil ?_
      refine X.then_ ?_
      refine wp_seq ?_
      refine R.list ?_
      refine S.val hf hs (v := .slice w_A w_.length w_C) rfl rfl rfl (V.pure rfl) (fun a hf => ?_)
      obtain ⟨h0x2, x2, hx2, h⟩ := h
      refine S.val hf hs (v := elemPtr w_A (2 * 1)) rfl rfl rfl (V.index rfl rfl rfl Tryz.runUnderlying74 Tryz.sizeOf9 (hv_w_.some_ (lt_of_get hx2)) h0x2 (lt_of_get hx2) rfl) (fun a hf => ?_)
      refine S.val hf hs (v := .string (ba x2)) rfl rfl rfl (V.loadEl (off := 0) (Ag.args _ _ _) (hv_w_.flat hx2) rfl rfl rfl Tryz.isAgg9 Tryz.sizeOf9 rfl rfl) (fun a hf => ?_)
      refine S.call hf rfl rfl rfl (call_fn (vs := [.string (ba x2)]) rfl rfl rfl Tryz.call108) (R_ref8_signed x2 _  _ h) (fun v a w' hf hr => ?_)
      obtain ⟨y3, y4, rfl, h2, hs2⟩ := hr
      replace h := h2; replace hs := hs.call hs2; clear h2 hs2
      refine S.val hf hs (v := .tuple #[.int .i64 y3, .bool y4]) rfl rfl rfl (V.pure rfl) (fun a hf => ?_)
      refine S.val hf hs (v := .int .i64 y3) rfl rfl rfl (V.pure rfl) (fun a hf => ?_)
      refine S.val hf hs (v := .bool y4) rfl rfl rfl (V.pure rfl) (fun a hf => ?_)
      refine S.val hf hs (v := .int .i64 y3) rfl rfl rfl (V.pure rfl) (fun a hf => ?_)
      refine S.val hf hs (v := .bool y4) rfl rfl rfl (V.pure rfl) (fun a hf => ?_)
      refine R.nil ?_
      refine X.then_ ?_
      refine wp_seq ?_
      refine R.list ?_
      refine S.val hf hs (v := .slice w_A w_.length w_C) rfl rfl rfl (V.pure rfl) (fun a hf => ?_)
      obtain ⟨h0x3, x3, hx3, h⟩ := h
      refine S.val hf hs (v := elemPtr w_A (3 * 1)) rfl rfl rfl (V.index rfl rfl rfl Tryz.runUnderlying74 Tryz.sizeOf9 (hv_w_.some_ (lt_of_get hx3)) h0x3 (lt_of_get hx3) rfl) (fun a hf => ?_)
      refine S.val hf hs (v := .string (ba x3)) rfl rfl rfl (V.loadEl (off := 0) (Ag.args _ _ _) (hv_w_.flat hx3) rfl rfl rfl Tryz.isAgg9 Tryz.sizeOf9 rfl rfl) (fun a hf => ?_)
      refine S.call hf rfl rfl rfl (call_fn (vs := [.string (ba x3)]) rfl rfl rfl Tryz.call107) (R_ref8_number x3 _  _ h) (fun v a w' hf hr => ?_)
      obtain ⟨y5, y6, rfl, h2, hs2⟩ := hr
      replace h := h2; replace hs := hs.call hs2; clear h2 hs2
      refine S.val hf hs (v := .tuple #[.int .i64 y5, .bool y6]) rfl rfl rfl (V.pure rfl) (fun a hf => ?_)
      refine S.val hf hs (v := .int .i64 y5) rfl rfl rfl (V.pure rfl) (fun a hf => ?_)
      refine S.val hf hs (v := .bool y6) rfl rfl rfl (V.pure rfl) (fun a hf => ?_)
      refine S.val hf hs (v := .int .i64 y5) rfl rfl rfl (V.pure rfl) (fun a hf => ?_)
      refine S.val hf hs (v := .bool y6) rfl rfl rfl (V.pure rfl) (fun a hf => ?_)
      refine R.nil ?_
      refine X.then_ ?_
      refine wp_seq ?_
      refine R.list ?_
      refine S.val hf hs (v := .slice w_A w_.length w_C) rfl rfl rfl (V.pure rfl) (fun a hf => ?_)
      obtain ⟨h0x4, x4, hx4, h⟩ := h
      refine S.val hf hs (v := elemPtr w_A (4 * 1)) rfl rfl rfl (V.index rfl rfl rfl Tryz.runUnderlying74 Tryz.sizeOf9 (hv_w_.some_ (lt_of_get hx4)) h0x4 (lt_of_get hx4) rfl) (fun a hf => ?_)
      refine S.val hf hs (v := .string (ba x4)) rfl rfl rfl (V.loadEl (off := 0) (Ag.args _ _ _) (hv_w_.flat hx4) rfl rfl rfl Tryz.isAgg9 Tryz.sizeOf9 rfl rfl) (fun a hf => ?_)
      refine S.call hf rfl rfl rfl (call_fn (vs := [.string (ba x4)]) rfl rfl rfl Tryz.call107) (R_ref8_number x4 _  _ h) (fun v a w' hf hr => ?_)
      obtain ⟨y7, y8, rfl, h2, hs2⟩ := hr
      replace h := h2; replace hs := hs.call hs2; clear h2 hs2
      refine S.val hf hs (v := .tuple #[.int .i64 y7, .bool y8]) rfl rfl rfl (V.pure rfl) (fun a hf => ?_)
      refine S.val hf hs (v := .int .i64 y7) rfl rfl rfl (V.pure rfl) (fun a hf => ?_)
      refine S.val hf hs (v := .bool y8) rfl rfl rfl (V.pure rfl) (fun a hf => ?_)
      refine S.val hf hs (v := .int .i64 y7) rfl rfl rfl (V.pure rfl) (fun a hf => ?_)
      refine S.val hf hs (v := .bool y8) rfl rfl rfl (V.pure rfl) (fun a hf => ?_)
      refine R.nil ?_
      refine X.then_ ?_
      refine wp_seq ?_
      refine R.list ?_
      refine S.val hf hs (v := .int .i64 y1) rfl rfl rfl (V.pure rfl) (fun a hf => ?_)
      refine S.val hf hs (v := .int .i64 y3) rfl rfl rfl (V.pure rfl) (fun a hf => ?_)
      refine S.val hf hs (v := .agg #[.int .i64 y1, .int .i64 y3]) rfl rfl rfl (V.build (places := #[(0, 1), (1, 1)]) rfl Tryz.zeroValue55 Tryz.runUnderlying55 (by intro w; simp [Tryz.sizeOf3]) rfl rfl) (fun a hf => ?_)
      refine S.val hf hs (v := .int .i64 y5) rfl rfl rfl (V.pure rfl) (fun a hf => ?_)
      refine S.val hf hs (v := .int .i64 y7) rfl rfl rfl (V.pure rfl) (fun a hf => ?_)
      refine S.val hf hs (v := .slice w_A w_.length w_C) rfl rfl rfl (V.pure rfl) (fun a hf => ?_)
      obtain ⟨h0x5, x5, hx5, h⟩ := h
      refine S.val hf hs (v := elemPtr w_A (5 * 1)) rfl rfl rfl (V.index rfl rfl rfl Tryz.runUnderlying74 Tryz.sizeOf9 (hv_w_.some_ (lt_of_get hx5)) h0x5 (lt_of_get hx5) rfl) (fun a hf => ?_)
      refine S.val hf hs (v := .string (ba x5)) rfl rfl rfl (V.loadEl (off := 0) (Ag.args _ _ _) (hv_w_.flat hx5) rfl rfl rfl Tryz.isAgg9 Tryz.sizeOf9 rfl rfl) (fun a hf => ?_)
      refine S.val hf hs (v := .bool (x5 == [112])) rfl rfl rfl (V.strCmp (x5 == [112]) rfl rfl rfl rfl) (fun a hf => ?_)
      refine S.val hf hs (v := .agg #[.int .i64 y1, .int .i64 y3, .int .i64 y5, .int .i64 y7, .bool (x5 == [112])]) rfl rfl rfl (V.build (places := #[(0, 2), (2, 1), (3, 1), (4, 1)]) rfl Tryz.zeroValue92 Tryz.runUnderlying92 (by intro w; simp [Tryz.sizeOf3, Tryz.sizeOf4, Tryz.sizeOf55]) rfl rfl) (fun a hf => ?_)
      refine S.val hf hs (v := .bool y2) rfl rfl rfl (V.pure rfl) (fun a hf => ?_)
      refine S.split hf hs (b := y2) rfl rfl rfl (V.pure rfl) (fun hc a hf => ?_) (fun hc a hf => ?_)
      · replace h := h.1 hc
        refine S.val hf hs (v := .bool y4) rfl rfl rfl (V.pure rfl) (fun a hf => ?_)
        refine S.val hf hs (v := .bool y4) rfl rfl rfl (V.pure rfl) (fun a hf => ?_)
        refine S.split hf hs (b := y4) rfl rfl rfl (V.pure rfl) (fun hc a hf => ?_) (fun hc a hf => ?_)
        · replace h := h.1 hc
          refine S.val hf hs (v := .bool y6) rfl rfl rfl (V.pure rfl) (fun a hf => ?_)
          refine S.val hf hs (v := .bool y6) rfl rfl rfl (V.pure rfl) (fun a hf => ?_)
          refine S.split hf hs (b := y6) rfl rfl rfl (V.pure rfl) (fun hc a hf => ?_) (fun hc a hf => ?_)
          · replace h := h.1 hc
            refine S.val hf hs (v := .bool y8) rfl rfl rfl (V.pure rfl) (fun a hf => ?_)
            refine S.val hf hs (v := .bool y8) rfl rfl rfl (V.pure rfl) (fun a hf => ?_)
            refine S.storeBox 0 hf hs rfl rfl [.int .i64 y1, .int .i64 y3, .int .i64 y5, .int .i64 y7, .bool (x5 == [112])] [.int .i64 y1, .int .i64 y3, .int .i64 y5, .int .i64 y7, .bool (x5 == [112])] rfl rfl rfl rfl rfl Tryz.sizeOf92 rfl rfl rfl rfl (fun a w hf hs => ?_)
            refine S.val hf hs (v := .bool y8) rfl rfl rfl (V.pure rfl) (fun a hf => ?_)
            refine R.nil ?_
            refine X.then_ ?_
            refine wp_ret ?_
            exact L.ret hf (run_results2 Tryz.results50 (ResIs.box hf hs 0 rfl rfl Tryz.isAgg92 Tryz.sizeOf92 rfl rfl) (ResIs.tmp hf rfl)) ⟨(⟨(⟨y1, y3⟩ : Point), y5, y7, x5 == [112]⟩ : Hole), y8, rfl, h, hs.nil⟩
          · replace h := h.2 hc
            refine S.skip hf rfl rfl rfl (fun a hf => ?_)
            refine S.val hf hs (v := .bool false) rfl rfl rfl (V.pure rfl) (fun a hf => ?_)
            refine S.storeBox 0 hf hs rfl rfl [.int .i64 y1, .int .i64 y3, .int .i64 y5, .int .i64 y7, .bool (x5 == [112])] [.int .i64 y1, .int .i64 y3, .int .i64 y5, .int .i64 y7, .bool (x5 == [112])] rfl rfl rfl rfl rfl Tryz.sizeOf92 rfl rfl rfl rfl (fun a w hf hs => ?_)
            refine S.val hf hs (v := .bool false) rfl rfl rfl (V.pure rfl) (fun a hf => ?_)
            refine R.nil ?_
            refine X.then_ ?_
            refine wp_ret ?_
            exact L.ret hf (run_results2 Tryz.results50 (ResIs.box hf hs 0 rfl rfl Tryz.isAgg92 Tryz.sizeOf92 rfl rfl) (ResIs.tmp hf rfl)) ⟨(⟨(⟨y1, y3⟩ : Point), y5, y7, x5 == [112]⟩ : Hole), false, rfl, h, hs.nil⟩
        · replace h := h.2 hc
          refine S.skip hf rfl rfl rfl (fun a hf => ?_)
          refine S.val hf hs (v := .bool false) rfl rfl rfl (V.pure rfl) (fun a hf => ?_)
          refine S.val hf hs (v := .bool false) rfl rfl rfl (V.pure rfl) (fun a hf => ?_)
          refine S.skip hf rfl rfl rfl (fun a hf => ?_)
          refine S.val hf hs (v := .bool false) rfl rfl rfl (V.pure rfl) (fun a hf => ?_)
          refine S.storeBox 0 hf hs rfl rfl [.int .i64 y1, .int .i64 y3, .int .i64 y5, .int .i64 y7, .bool (x5 == [112])] [.int .i64 y1, .int .i64 y3, .int .i64 y5, .int .i64 y7, .bool (x5 == [112])] rfl rfl rfl rfl rfl Tryz.sizeOf92 rfl rfl rfl rfl (fun a w hf hs => ?_)
          refine S.val hf hs (v := .bool false) rfl rfl rfl (V.pure rfl) (fun a hf => ?_)
          refine R.nil ?_
          refine X.then_ ?_
          refine wp_ret ?_
          exact L.ret hf (run_results2 Tryz.results50 (ResIs.box hf hs 0 rfl rfl Tryz.isAgg92 Tryz.sizeOf92 rfl rfl) (ResIs.tmp hf rfl)) ⟨(⟨(⟨y1, y3⟩ : Point), y5, y7, x5 == [112]⟩ : Hole), false, rfl, h, hs.nil⟩
      · replace h := h.2 hc
        refine S.skip hf rfl rfl rfl (fun a hf => ?_)
        refine S.val hf hs (v := .bool false) rfl rfl rfl (V.pure rfl) (fun a hf => ?_)
        refine S.val hf hs (v := .bool false) rfl rfl rfl (V.pure rfl) (fun a hf => ?_)
        refine S.skip hf rfl rfl rfl (fun a hf => ?_)
        refine S.val hf hs (v := .bool false) rfl rfl rfl (V.pure rfl) (fun a hf => ?_)
        refine S.val hf hs (v := .bool false) rfl rfl rfl (V.pure rfl) (fun a hf => ?_)
        refine S.skip hf rfl rfl rfl (fun a hf => ?_)
        refine S.val hf hs (v := .bool false) rfl rfl rfl (V.pure rfl) (fun a hf => ?_)
        refine S.storeBox 0 hf hs rfl rfl [.int .i64 y1, .int .i64 y3, .int .i64 y5, .int .i64 y7, .bool (x5 == [112])] [.int .i64 y1, .int .i64 y3, .int .i64 y5, .int .i64 y7, .bool (x5 == [112])] rfl rfl rfl rfl rfl Tryz.sizeOf92 rfl rfl rfl rfl (fun a w hf hs => ?_)
        refine S.val hf hs (v := .bool false) rfl rfl rfl (V.pure rfl) (fun a hf => ?_)
        refine R.nil ?_
        refine X.then_ ?_
        refine wp_ret ?_
        exact L.ret hf (run_results2 Tryz.results50 (ResIs.box hf hs 0 rfl rfl Tryz.isAgg92 Tryz.sizeOf92 rfl rfl) (ResIs.tmp hf rfl)) ⟨(⟨(⟨y1, y3⟩ : Point), y5, y7, x5 == [112]⟩ : Hole), false, rfl, h, hs.nil⟩
  · skip
    refine R.list ?_
    refine S.val hf hs (v := .slice w_A w_.length w_C) rfl rfl rfl (V.pure rfl) (fun a hf => ?_)
    refine S.val hf hs (v := .int .i64 (w_.length : Int)) rfl rfl rfl (V.len rfl rfl Tryz.runUnderlying74) (fun a hf => ?_)
    refine S.val hf hs (v := .bool ((w_.length : Int) != 6)) rfl rfl rfl (V.pure rfl) (fun a hf => ?_)
    refine S.split hf hs (b := (w_.length : Int) != 6) rfl rfl rfl (V.pure rfl) (fun hc a hf => ?_) (fun hc a hf => ?_)
    · replace h := h.1 hc
      refine S.skip hf rfl rfl rfl (fun a hf => ?_)
      refine S.skip hf rfl rfl rfl (fun a hf => ?_)
      refine S.skip hf rfl rfl rfl (fun a hf => ?_)
      refine S.skip hf rfl rfl rfl (fun a hf => ?_)
      refine S.skip hf rfl rfl rfl (fun a hf => ?_)
      refine S.skip hf rfl rfl rfl (fun a hf => ?_)
      refine S.skip hf rfl rfl rfl (fun a hf => ?_)
      refine S.skip hf rfl rfl rfl (fun a hf => ?_)
      refine S.skip hf rfl rfl rfl (fun a hf => ?_)
      refine S.skip hf rfl rfl rfl (fun a hf => ?_)
      refine S.val hf hs (v := .bool true) rfl rfl rfl (V.pure rfl) (fun a hf => ?_)
      refine R.nil ?_
      refine X.then_ ?_
      exact ⟨true, h, (((hf.nil.cons (hf.get 26 _ rfl)).cons (hf.get 2 _ rfl)).cons (hf.get 0 _ rfl)), hs⟩
    · replace h := h.2 hc
      refine S.val hf hs (v := .slice w_A w_.length w_C) rfl rfl rfl (V.pure rfl) (fun a hf => ?_)
      obtain ⟨h0x6, x6, hx6, h⟩ := h
      refine S.val hf hs (v := elemPtr w_A (5 * 1)) rfl rfl rfl (V.index rfl rfl rfl Tryz.runUnderlying74 Tryz.sizeOf9 (hv_w_.some_ (lt_of_get hx6)) h0x6 (lt_of_get hx6) rfl) (fun a hf => ?_)
      refine S.val hf hs (v := .string (ba x6)) rfl rfl rfl (V.loadEl (off := 0) (Ag.args _ _ _) (hv_w_.flat hx6) rfl rfl rfl Tryz.isAgg9 Tryz.sizeOf9 rfl rfl) (fun a hf => ?_)
      refine S.val hf hs (v := .bool (!(x6 == [112]))) rfl rfl rfl (V.strCmp (!(x6 == [112])) rfl rfl rfl rfl) (fun a hf => ?_)
      refine S.split hf hs (b := !(x6 == [112])) rfl rfl rfl (V.pure rfl) (fun hc a hf => ?_) (fun hc a hf => ?_)
      · replace h := h.1 hc
        refine S.val hf hs (v := .slice w_A w_.length w_C) rfl rfl rfl (V.pure rfl) (fun a hf => ?_)
        refine S.val hf hs (v := elemPtr w_A (5 * 1)) rfl rfl rfl (V.index rfl rfl rfl Tryz.runUnderlying74 Tryz.sizeOf9 (hv_w_.some_ (lt_of_get hx6)) h0x6 (lt_of_get hx6) rfl) (fun a hf => ?_)
        refine S.val hf hs (v := .string (ba x6)) rfl rfl rfl (V.loadEl (off := 0) (Ag.args _ _ _) (hv_w_.flat hx6) rfl rfl rfl Tryz.isAgg9 Tryz.sizeOf9 rfl rfl) (fun a hf => ?_)
        refine S.val hf hs (v := .bool (!(x6 == [45]))) rfl rfl rfl (V.strCmp (!(x6 == [45])) rfl rfl rfl rfl) (fun a hf => ?_)
        refine S.val hf hs (v := .bool (!(x6 == [45]))) rfl rfl rfl (V.pure rfl) (fun a hf => ?_)
        refine S.val hf hs (v := .bool (!(x6 == [45]))) rfl rfl rfl (V.pure rfl) (fun a hf => ?_)
        refine R.nil ?_
        refine X.then_ ?_
        exact ⟨(!(x6 == [45])), h, (((hf.nil.cons (hf.get 26 _ rfl)).cons (hf.get 2 _ rfl)).cons (hf.get 0 _ rfl)), hs⟩
      · replace h := h.2 hc
        refine S.skip hf rfl rfl rfl (fun a hf => ?_)
        refine S.skip hf rfl rfl rfl (fun a hf => ?_)
        refine S.skip hf rfl rfl rfl (fun a hf => ?_)
        refine S.skip hf rfl rfl rfl (fun a hf => ?_)
        refine S.val hf hs (v := .bool false) rfl rfl rfl (V.pure rfl) (fun a hf => ?_)
        refine S.val hf hs (v := .bool false) rfl rfl rfl (V.pure rfl) (fun a hf => ?_)
        refine R.nil ?_
        refine X.then_ ?_
        exact ⟨false, h, (((hf.nil.cons (hf.get 26 _ rfl)).cons (hf.get 2 _ rfl)).cons (hf.get 0 _ rfl)), hs⟩

set_option linter.unusedVariables false
def M_ref8_Read_k3 (Q : (List Bit) → (List Job) → Int → Int → Prop) (n2 : Int) (again1 : List Job → List Bit → Str → Int → Prop) (y2 : Str) (l5 : List Job) (l6 : List Bit) (c2 : Bool) : Prop :=
  cnd c2 (Q ([] : List Bit) ([] : List Job) n2 10) (again1 l5 l6 y2 (w64 (n2 + 1)))
def M_ref8_Read_k2 (Q : (List Bit) → (List Job) → Int → Int → Prop) (n2 : Int) (again1 : List Job → List Bit → Str → Int → Prop) (y2 : Str) (y3 : Bool) (l5 : List Job) (l6 : List Bit) (c1 : Bool) : Prop :=
  cnd (!c1) (M_ref8_Read_k3 Q n2 again1 y2 l5 l6 true) (M_ref8_Read_k3 Q n2 again1 y2 l5 l6 (!y3))
def M_ref8_Read_k6 (Q : (List Bit) → (List Job) → Int → Int → Prop) (l3 : List Job) (l4 : List Bit) (n2 : Int) (again1 : List Job → List Bit → Str → Int → Prop) (y2 : Str) (y3 : Bool) (y4 : (List Str)) (c5 : Bool) : Prop :=
  cnd c5 (M_ref8_readHole y4 fun y8 y9 => idx l3 (w64 ((l3.length : Int) - 1)) fun x2 => must (room (x2.Holes ++ [y8]).length 40) (M_ref8_Read_k2 Q n2 again1 y2 y3 (l3.set ((w64 ((l3.length : Int) - 1)).toNat) (⟨x2.Tool, (x2.Holes ++ [y8])⟩ : Job)) l4 y9)) (M_ref8_Read_k2 Q n2 again1 y2 y3 l3 l4 false)
def M_ref8_Read_k5 (Q : (List Bit) → (List Job) → Int → Int → Prop) (l3 : List Job) (l4 : List Bit) (n2 : Int) (again1 : List Job → List Bit → Str → Int → Prop) (y2 : Str) (y3 : Bool) (y4 : (List Str)) (c4 : Bool) : Prop :=
  cnd c4 (idx y4 1 fun x1 => M_ref8_isRow x1 fun y7 => must (room (l3 ++ [(⟨x1, ([] : List Hole)⟩ : Job)]).length 40) (M_ref8_Read_k2 Q n2 again1 y2 y3 (l3 ++ [(⟨x1, ([] : List Hole)⟩ : Job)]) l4 y7)) (idx y4 0 fun x3 => cnd (x3 == [104, 111, 108, 101]) (M_ref8_Read_k6 Q l3 l4 n2 again1 y2 y3 y4 (decide ((l3.length : Int) > 0))) (M_ref8_Read_k6 Q l3 l4 n2 again1 y2 y3 y4 false))
def M_ref8_Read_k4 (Q : (List Bit) → (List Job) → Int → Int → Prop) (l3 : List Job) (l4 : List Bit) (n2 : Int) (again1 : List Job → List Bit → Str → Int → Prop) (y2 : Str) (y3 : Bool) (y4 : (List Str)) (c3 : Bool) : Prop :=
  cnd c3 (M_ref8_readTool y4 fun y5 y6 => must (room (l4 ++ [y5]).length 40) (M_ref8_Read_k2 Q n2 again1 y2 y3 l3 (l4 ++ [y5]) y6)) (idx y4 0 fun x4 => cnd (x4 == [106, 111, 98]) (M_ref8_Read_k5 Q l3 l4 n2 again1 y2 y3 y4 ((y4.length : Int) == 2)) (M_ref8_Read_k5 Q l3 l4 n2 again1 y2 y3 y4 false))
def M_ref8_Read_L1 (Q : (List Bit) → (List Job) → Int → Int → Prop) (again1 : List Job → List Bit → Str → Int → Prop) (l3 : List Job) (l4 : List Bit) (s2 : Str) (n2 : Int) : Prop :=
  cnd (!(s2 == [])) (M_strings_Cut s2 [10] fun y1 y2 y3 => M_strings_Split y1 [32] fun y4 => idx y4 0 fun x5 => cnd (x5 == [116, 111, 111, 108]) (M_ref8_Read_k4 Q l3 l4 n2 again1 y2 y3 y4 ((l3.length : Int) == 0)) (M_ref8_Read_k4 Q l3 l4 n2 again1 y2 y3 y4 false)) (M_ref8_CheckJobs l4 l3 fun y10 => cnd (y10 != 0) (Q ([] : List Bit) ([] : List Job) 0 y10) (Q l4 l3 0 0))
def M_ref8_Read (text : Str) (Q : (List Bit) → (List Job) → Int → Int → Prop) : Prop :=
  cnd (decide ((text.length : Int) > 500000)) (Q ([] : List Bit) ([] : List Job) 0 2) (lp (fun again (s : List Job × List Bit × Str × Int) => M_ref8_Read_L1 Q (fun l3 l4 s2 n2 => again (l3, l4, s2, n2)) s.1 s.2.1 s.2.2.1 s.2.2.2) (([] : List Job), ([] : List Bit), text, 1))
set_option maxHeartbeats 1000000 in
theorem R_ref8_Read (text : Str) (w0 : World)  (Q : (List Bit) → (List Job) → Int → Int → Prop) (h : M_ref8_Read text Q) :
    Ret Tryz.prog 17 #[.string (ba text)] w0 fun v w' => ∃ (r0 : (List Bit)) (r0A : Option Addr) (r0C : Nat) (r1 : (List Job)) (r1A : Option Addr) (r1C : Nat) (r1as : List (Option Addr × Nat)) (r2 : Int) (r3 : Int), v = .tuple #[.slice r0A r0.length r0C, .slice r1A r1.length r1C, .int .i64 r2, .int .i64 r3] ∧ Q r0 r1 r2 r3 ∧ Sat w0 none_ [hown 41 r0A r0C r0, hrows 90 92 r1A r1C r1as r1] w' := by
  refine fn_enter Tryz.func17 rfl Tryz.ntmps17 rfl (fs := [(0, .string (ba text))]) rfl (fun a hf => ?_)
  have hs := Sat.start w0 none_
  unfold M_ref8_Read at h
  refine wp_seq ?_
  refine R.list ?_
  refine S.val hf hs (v := .slice none 0 0) rfl rfl rfl (V.pure rfl) (fun a hf => ?_)
  refine S.val hf hs (v := .slice none 0 0) rfl rfl rfl (V.pure rfl) (fun a hf => ?_)
  refine S.val hf hs (v := .int .i64 0) rfl rfl rfl (V.pure rfl) (fun a hf => ?_)
  refine S.val hf hs (v := .int .i64 0) rfl rfl rfl (V.pure rfl) (fun a hf => ?_)
  refine R.nil ?_
  refine X.then_ ?_
  refine wp_seq ?_
  refine wp_seq ?_
  refine R.list ?_
  refine S.val hf hs (v := .string (ba text)) rfl rfl rfl (V.pure rfl) (fun a hf => ?_)
  refine S.val hf hs (v := .int .i64 (text.length : Int)) rfl rfl rfl (V.lenStr rfl rfl Tryz.runUnderlying9) (fun a hf => ?_)
  refine S.val hf hs (v := .bool (decide ((text.length : Int) > 500000))) rfl rfl rfl (V.pure rfl) (fun a hf => ?_)
  refine R.nil ?_
  refine X.then_ ?_
  refine C.cond hf (b := decide ((text.length : Int) > 500000)) rfl (fun hc => ?_) (fun hc => ?_)
  · replace h := h.1 hc
    refine wp_seq ?_
    refine R.list ?_
    refine S.val hf hs (v := .slice none 0 0) rfl rfl rfl (V.pure rfl) (fun a hf => ?_)
    refine S.val hf hs (v := .slice none 0 0) rfl rfl rfl (V.pure rfl) (fun a hf => ?_)
    refine S.val hf hs (v := .int .i64 0) rfl rfl rfl (V.pure rfl) (fun a hf => ?_)
    refine S.val hf hs (v := .int .i64 2) rfl rfl rfl (V.pure rfl) (fun a hf => ?_)
    refine R.nil ?_
    refine X.then_ ?_
    refine wp_ret ?_
    refine X.then_ret ?_
    replace hs := hs.nilOwn (α := Bit) 41
    replace hs := hs.nilRows (α := Job) 90 92
    replace hs := hs.front 1 rfl
    replace hs := hs.take 2
    exact L.ret hf (run_results4 Tryz.results17 (ResIs.tmp hf rfl) (ResIs.tmp hf rfl) (ResIs.tmp hf rfl) (ResIs.tmp hf rfl)) ⟨([] : List Bit), none, 0, ([] : List Job), none, 0, [], 0, 2, rfl, h, hs⟩
  · replace h := h.2 hc
    refine wp_skip ?_
    refine X.then_ ?_
    refine wp_seq ?_
    refine R.list ?_
    refine S.val hf hs (v := .slice none 0 0) rfl rfl rfl (V.pure rfl) (fun a hf => ?_)
    refine R.nil ?_
    refine X.then_ ?_
    refine wp_seq ?_
    refine R.list ?_
    refine S.val hf hs (v := .slice none 0 0) rfl rfl rfl (V.pure rfl) (fun a hf => ?_)
    refine R.nil ?_
    refine X.then_ ?_
    refine wp_seq ?_
    refine wp_seq ?_
    refine R.list ?_
    refine S.val hf hs (v := .int .i64 1) rfl rfl rfl (V.pure rfl) (fun a hf => ?_)
    refine R.nil ?_
    refine X.then_ ?_
    refine wp_block ?_
    replace hs := hs.nilOwn (α := Bit) 41
    replace hs := hs.nilRows (α := Job) 90 92
    obtain ⟨kk, h⟩ := h
    refine C.loop (fun kk a w => ∃ (l3 : List Job) (l3A : Option Addr) (l3C : Nat) (l3as : List (Option Addr × Nat)) (l4 : List Bit) (l4A : Option Addr) (l4C : Nat) (s2 : Str) (n2 : Int), iterF (fun again (s : List Job × List Bit × Str × Int) => M_ref8_Read_L1 Q (fun l3 l4 s2 n2 => again (l3, l4, s2, n2)) s.1 s.2.1 s.2.2.1 s.2.2.2) kk (l3, l4, s2, n2) ∧ FrOk 119 [(0, .string (ba s2)), (6, .slice l4A l4.length l4C), (7, .slice l3A l3.length l3C), (8, .int .i64 n2)] a ∧ Sat w0 none_ [hrows 90 92 l3A l3C l3as l3, hown 41 l4A l4C l4] w) kk ⟨([] : List Job), none, 0, ([] : List (Option Addr × Nat)), ([] : List Bit), none, 0, text, 1, h, ((((hf.nil.cons (hf.get 8 _ rfl)).cons (hf.get 7 _ rfl)).cons (hf.get 6 _ rfl)).cons (hf.get 0 _ rfl)), hs⟩ (fun a w ⟨_, _, _, _, _, _, _, _, _, h, _, _⟩ => h) ?_
    clear h hf hs
    rintro kk a w ⟨l3, l3A, l3C, l3as, l4, l4A, l4C, s2, n2, h, hf, hs⟩
    obtain ⟨again1, hagain1⟩ : ∃ X : List Job → List Bit → Str → Int → Prop, X = (fun l3 l4 s2 n2 => iterF (fun again (s : List Job × List Bit × Str × Int) => M_ref8_Read_L1 Q (fun l3 l4 s2 n2 => again (l3, l4, s2, n2)) s.1 s.2.1 s.2.2.1 s.2.2.2) kk (l3, l4, s2, n2)) := ⟨_, rfl⟩
    replace h : M_ref8_Read_L1 Q again1 l3 l4 s2 n2 := by rw [hagain1]; exact h
    unfold M_ref8_Read_L1 at h
    refine wp_seq ?_
    refine wp_seq ?_
    refine R.list ?_
    refine S.val hf hs (v := .string (ba s2)) rfl rfl rfl (V.pure rfl) (fun a hf => ?_)
    refine S.val hf hs (v := .bool (!(s2 == []))) rfl rfl rfl (V.strCmp (!(s2 == [])) rfl rfl rfl rfl) (fun a hf => ?_)
    refine R.nil ?_
    refine X.then_ ?_
    refine C.cond hf (b := !(s2 == [])) rfl (fun hc => ?_) (fun hc => ?_)
    · replace h := h.1 hc
      refine wp_skip ?_
      refine X.then_ ?_
      refine wp_seq ?_
      refine wp_block ?_
      refine wp_seq ?_
      refine R.list ?_
      refine S.val hf hs (v := .string (ba s2)) rfl rfl rfl (V.pure rfl) (fun a hf => ?_)
      refine S.call hf rfl rfl rfl (call_fn (vs := [.string (ba s2), .string (ba [10])]) rfl rfl rfl Tryz.call38) (R_strings_Cut s2 [10] _  _ h) (fun v a w' hf hr => ?_)
      obtain ⟨y1, y2, y3, rfl, h2, hs2⟩ := hr
      replace h := h2; replace hs := hs.call hs2; clear h2 hs2
      refine S.val hf hs (v := .tuple #[.string (ba y1), .string (ba y2), .bool y3]) rfl rfl rfl (V.pure rfl) (fun a hf => ?_)
      refine S.val hf hs (v := .string (ba y1)) rfl rfl rfl (V.pure rfl) (fun a hf => ?_)
      refine S.val hf hs (v := .string (ba y2)) rfl rfl rfl (V.pure rfl) (fun a hf => ?_)
      refine S.val hf hs (v := .bool y3) rfl rfl rfl (V.pure rfl) (fun a hf => ?_)
      refine S.val hf hs (v := .string (ba y1)) rfl rfl rfl (V.pure rfl) (fun a hf => ?_)
      refine S.val hf hs (v := .string (ba y2)) rfl rfl rfl (V.pure rfl) (fun a hf => ?_)
      refine S.val hf hs (v := .bool y3) rfl rfl rfl (V.pure rfl) (fun a hf => ?_)
      refine R.nil ?_
      refine X.then_ ?_
      refine wp_seq ?_
      refine R.list ?_
      refine S.val hf hs (v := .string (ba y1)) rfl rfl rfl (V.pure rfl) (fun a hf => ?_)
      refine S.call hf rfl rfl rfl (call_fn (vs := [.string (ba y1), .string (ba [32])]) rfl rfl rfl Tryz.call41) (R_strings_Split y1 [32] _  _ h) (fun v a w' hf hr => ?_)
      obtain ⟨y4, y4A, y4C, rfl, h2, hs2⟩ := hr
      replace h := h2; replace hs := hs.call hs2; clear h2 hs2
      refine S.val hf hs (v := .slice y4A y4.length y4C) rfl rfl rfl (V.pure rfl) (fun a hf => ?_)
      refine R.nil ?_
      refine X.then_ ?_
      refine wp_seq ?_
      refine R.list ?_
      refine S.val hf hs (v := .bool false) rfl rfl rfl (V.pure rfl) (fun a hf => ?_)
      refine R.nil ?_
      refine X.then_ ?_
      refine wp_seq ?_
      refine C.cut (J := fun a w => ∃ (l5 : List Job) (l5A : Option Addr) (l5C : Nat) (l5as : List (Option Addr × Nat)) (l6 : List Bit) (l6A : Option Addr) (l6C : Nat) (c1 : Bool), M_ref8_Read_k2 Q n2 again1 y2 y3 l5 l6 c1 ∧ FrOk 119 [(6, .slice l6A l6.length l6C), (7, .slice l5A l5.length l5C), (8, .int .i64 n2), (10, .string (ba y2)), (11, .bool y3), (13, .bool c1)] a ∧ Sat w0 none_ [hown 9 y4A y4C y4, hrows 90 92 l5A l5C l5as l5, hown 41 l6A l6C l6] w) ?_ ?_
      · rintro a w ⟨l5, l5A, l5C, l5as, l6, l6A, l6C, c1, h, hf, hs⟩
        unfold M_ref8_Read_k2 at h
        refine wp_seq ?_
        refine wp_seq ?_
        refine C.cut (J := fun a w => ∃ (c2 : Bool), M_ref8_Read_k3 Q n2 again1 y2 l5 l6 c2 ∧ FrOk 119 [(6, .slice l6A l6.length l6C), (7, .slice l5A l5.length l5C), (8, .int .i64 n2), (10, .string (ba y2)), (108, .bool c2)] a ∧ Sat w0 none_ [hown 9 y4A y4C y4, hrows 90 92 l5A l5C l5as l5, hown 41 l6A l6C l6] w) ?_ ?_
        · rintro a w ⟨c2, h, hf, hs⟩
          unfold M_ref8_Read_k3 at h
          refine C.cond hf (b := c2) rfl (fun hc => ?_) (fun hc => ?_)
          · replace h := h.1 hc
            refine wp_seq ?_
            refine R.list ?_
            refine S.val hf hs (v := .int .i64 n2) rfl rfl rfl (V.pure rfl) (fun a hf => ?_)
            refine S.val hf hs (v := .slice none 0 0) rfl rfl rfl (V.pure rfl) (fun a hf => ?_)
            refine S.val hf hs (v := .slice none 0 0) rfl rfl rfl (V.pure rfl) (fun a hf => ?_)
            refine S.val hf hs (v := .int .i64 n2) rfl rfl rfl (V.pure rfl) (fun a hf => ?_)
            refine S.val hf hs (v := .int .i64 10) rfl rfl rfl (V.pure rfl) (fun a hf => ?_)
            refine R.nil ?_
            refine X.then_ ?_
            refine wp_ret ?_
            refine X.then_ret ?_
            refine X.blk_ret ?_
            refine X.then_ret ?_
            refine X.then_ret ?_
            refine X.blk_ret ?_
            refine X.then_ret ?_
            replace hs := hs.nilOwn (α := Bit) 41
            replace hs := hs.nilRows (α := Job) 90 92
            replace hs := hs.front 1 rfl
            replace hs := hs.take 2
            exact L.ret hf (run_results4 Tryz.results17 (ResIs.tmp hf rfl) (ResIs.tmp hf rfl) (ResIs.tmp hf rfl) (ResIs.tmp hf rfl)) ⟨([] : List Bit), none, 0, ([] : List Job), none, 0, [], n2, 10, rfl, h, hs⟩
          · replace h := h.2 hc
            refine wp_skip ?_
            refine X.then_ ?_
            refine R.list ?_
            refine S.val hf hs (v := .string (ba y2)) rfl rfl rfl (V.pure rfl) (fun a hf => ?_)
            refine S.val hf hs (v := .string (ba y2)) rfl rfl rfl (V.pure rfl) (fun a hf => ?_)
            refine R.nil ?_
            refine X.blk ?_
            refine X.then_ ?_
            refine R.list ?_
            refine S.val hf hs (v := .int .i64 n2) rfl rfl rfl (V.pure rfl) (fun a hf => ?_)
            refine S.val hf hs (v := .int .i64 (w64 (n2 + 1))) rfl rfl rfl (V.pure rfl) (fun a hf => ?_)
            refine S.val hf hs (v := .int .i64 (w64 (n2 + 1))) rfl rfl rfl (V.pure rfl) (fun a hf => ?_)
            refine R.nil ?_
            refine X.then_ ?_
            exact ⟨l5, l5A, l5C, l5as, l6, l6A, l6C, y2, (w64 (n2 + 1)), (by rw [hagain1] at h; exact h), ((((hf.nil.cons (hf.get 8 _ rfl)).cons (hf.get 7 _ rfl)).cons (hf.get 6 _ rfl)).cons (hf.get 0 _ rfl)), hs.drop⟩
        · skip
          refine R.list ?_
          refine S.val hf hs (v := .bool c1) rfl rfl rfl (V.pure rfl) (fun a hf => ?_)
          refine S.val hf hs (v := .bool (!c1)) rfl rfl rfl (V.pure rfl) (fun a hf => ?_)
          refine S.split hf hs (b := !c1) rfl rfl rfl (V.pure rfl) (fun hc a hf => ?_) (fun hc a hf => ?_)
          · replace h := h.1 hc
            refine S.skip hf rfl rfl rfl (fun a hf => ?_)
            refine S.skip hf rfl rfl rfl (fun a hf => ?_)
            refine S.val hf hs (v := .bool true) rfl rfl rfl (V.pure rfl) (fun a hf => ?_)
            refine R.nil ?_
            refine X.then_ ?_
            exact ⟨true, h, (((((hf.nil.cons (hf.get 108 _ rfl)).cons (hf.get 10 _ rfl)).cons (hf.get 8 _ rfl)).cons (hf.get 7 _ rfl)).cons (hf.get 6 _ rfl)), hs⟩
          · replace h := h.2 hc
            refine S.val hf hs (v := .bool y3) rfl rfl rfl (V.pure rfl) (fun a hf => ?_)
            refine S.val hf hs (v := .bool (!y3)) rfl rfl rfl (V.pure rfl) (fun a hf => ?_)
            refine S.val hf hs (v := .bool (!y3)) rfl rfl rfl (V.pure rfl) (fun a hf => ?_)
            refine R.nil ?_
            refine X.then_ ?_
            exact ⟨(!y3), h, (((((hf.nil.cons (hf.get 108 _ rfl)).cons (hf.get 10 _ rfl)).cons (hf.get 8 _ rfl)).cons (hf.get 7 _ rfl)).cons (hf.get 6 _ rfl)), hs⟩
      · skip
        refine wp_block ?_
        refine wp_seq ?_
        refine C.cut (J := fun a w => ∃ (c3 : Bool), M_ref8_Read_k4 Q l3 l4 n2 again1 y2 y3 y4 c3 ∧ FrOk 119 [(6, .slice l4A l4.length l4C), (7, .slice l3A l3.length l3C), (8, .int .i64 n2), (10, .string (ba y2)), (11, .bool y3), (12, .slice y4A y4.length y4C), (13, .bool false), (32, .bool c3)] a ∧ Sat w0 none_ [hown 9 y4A y4C y4, hrows 90 92 l3A l3C l3as l3, hown 41 l4A l4C l4] w) ?_ ?_
        · rintro a w ⟨c3, h, hf, hs⟩
          unfold M_ref8_Read_k4 at h
          refine C.cond hf (b := c3) rfl (fun hc => ?_) (fun hc => ?_)
          · replace h := h.1 hc
            refine wp_seq ?_
            refine R.list ?_
            refine S.alloc hf hs rfl rfl rfl [.string (ba []), .int .i64 0, .int .i64 0, .int .i64 0] rfl Tryz.zeroValue41 rfl (fun g1 a w hf hs => ?_)
            refine R.nil ?_
            refine X.then_ ?_
            refine wp_seq ?_
            refine R.list ?_
            refine S.val hf hs (v := .slice y4A y4.length y4C) rfl rfl rfl (V.pure rfl) (fun a hf => ?_)
            refine S.call hf rfl rfl rfl (call_fn (vs := [.slice y4A y4.length y4C]) rfl rfl rfl Tryz.call48) (R_ref8_readTool y4 _ y4A y4C (hs.ownView 1 rfl) _ h) (fun v a w' hf hr => ?_)
            obtain ⟨y5, y6, rfl, h2, hs2⟩ := hr
            replace h := h2; replace hs := hs.call hs2; clear h2 hs2
            refine S.val hf hs (v := .tuple #[.agg #[.string (ba y5.Name), .int .i64 y5.Size, .int .i64 y5.Life, .int .i64 y5.Stack], .bool y6]) rfl rfl rfl (V.pure rfl) (fun a hf => ?_)
            refine S.val hf hs (v := .agg #[.string (ba y5.Name), .int .i64 y5.Size, .int .i64 y5.Life, .int .i64 y5.Stack]) rfl rfl rfl (V.pure rfl) (fun a hf => ?_)
            refine S.val hf hs (v := .bool y6) rfl rfl rfl (V.pure rfl) (fun a hf => ?_)
            refine S.storeBox 0 hf hs rfl rfl [.string (ba y5.Name), .int .i64 y5.Size, .int .i64 y5.Life, .int .i64 y5.Stack] [.string (ba y5.Name), .int .i64 y5.Size, .int .i64 y5.Life, .int .i64 y5.Stack] rfl rfl rfl rfl rfl Tryz.sizeOf41 rfl rfl rfl rfl (fun a w hf hs => ?_)
            refine S.val hf hs (v := .bool y6) rfl rfl rfl (V.pure rfl) (fun a hf => ?_)
            refine R.nil ?_
            refine X.then_ ?_
            refine R.list ?_
            refine S.val hf hs (v := .slice l4A l4.length l4C) rfl rfl rfl (V.pure rfl) (fun a hf => ?_)
            refine S.val hf hs (v := .agg #[.string (ba y5.Name), .int .i64 y5.Size, .int .i64 y5.Life, .int .i64 y5.Stack]) rfl rfl rfl (V.loadBox 0 rfl rfl rfl Tryz.isAgg41 Tryz.sizeOf41 rfl rfl) (fun a hf => ?_)
            refine S.build1 hf hs rfl rfl rfl (α := Bit) y5 rfl rfl rfl Tryz.runUnderlying35 Tryz.sizeOf41 Tryz.zeroValue41 rfl (by decide) (fun A1 a w hf hs => ?_)
            obtain ⟨hroom, h⟩ := h
            refine S.appendCells 4 hf hs rfl rfl rfl rfl rfl rfl rfl Tryz.underlying35 info41 rfl hroom ((hs.ownView 0 rfl).some_ (i := 0) (by simp)) (hs.ownView 0 rfl) (fun A2 C1 a w hf hs => ?_)
            replace hs := hs.drop
            refine S.val hf hs (v := .slice A2 (l4 ++ [y5]).length C1) rfl rfl rfl (V.pure rfl) (fun a hf => ?_)
            refine R.nil ?_
            refine X.blk ?_
            refine X.then_ ?_
            exact ⟨l3, l3A, l3C, l3as, (l4 ++ [y5]), A2, C1, y6, h, ((((((hf.nil.cons (hf.get 13 _ rfl)).cons (hf.get 11 _ rfl)).cons (hf.get 10 _ rfl)).cons (hf.get 8 _ rfl)).cons (hf.get 7 _ rfl)).cons (hf.get 6 _ rfl)), hs.drop⟩
          · replace h := h.2 hc
            refine wp_seq ?_
            refine C.cut (J := fun a w => ∃ (c4 : Bool), M_ref8_Read_k5 Q l3 l4 n2 again1 y2 y3 y4 c4 ∧ FrOk 119 [(6, .slice l4A l4.length l4C), (7, .slice l3A l3.length l3C), (8, .int .i64 n2), (10, .string (ba y2)), (11, .bool y3), (12, .slice y4A y4.length y4C), (13, .bool false), (51, .bool c4)] a ∧ Sat w0 none_ [hown 9 y4A y4C y4, hrows 90 92 l3A l3C l3as l3, hown 41 l4A l4C l4] w) ?_ ?_
            · rintro a w ⟨c4, h, hf, hs⟩
              unfold M_ref8_Read_k5 at h
              refine C.cond hf (b := c4) rfl (fun hc => ?_) (fun hc => ?_)
              · replace h := h.1 hc
                refine wp_seq ?_
                refine R.list ?_
                refine S.val hf hs (v := .slice y4A y4.length y4C) rfl rfl rfl (V.pure rfl) (fun a hf => ?_)
                obtain ⟨h0x1, x1, hx1, h⟩ := h
                refine S.val hf hs (v := elemPtr y4A (1 * 1)) rfl rfl rfl (V.index rfl rfl rfl Tryz.runUnderlying74 Tryz.sizeOf9 (hs.ownSome 0 rfl (lt_of_get hx1)) h0x1 (lt_of_get hx1) rfl) (fun a hf => ?_)
                refine S.val hf hs (v := .string (ba x1)) rfl rfl rfl (V.loadOwn (off := 0) 0 rfl hx1 rfl rfl rfl Tryz.isAgg9 Tryz.sizeOf9 rfl rfl) (fun a hf => ?_)
                refine S.call hf rfl rfl rfl (call_fn (vs := [.string (ba x1)]) rfl rfl rfl Tryz.call49) (R_ref8_isRow x1 _  _ h) (fun v a w' hf hr => ?_)
                obtain ⟨y7, rfl, h2, hs2⟩ := hr
                replace h := h2; replace hs := hs.call hs2; clear h2 hs2
                refine S.val hf hs (v := .bool y7) rfl rfl rfl (V.pure rfl) (fun a hf => ?_)
                refine R.nil ?_
                refine X.then_ ?_
                refine R.list ?_
                refine S.val hf hs (v := .slice l3A l3.length l3C) rfl rfl rfl (V.pure rfl) (fun a hf => ?_)
                refine S.val hf hs (v := .slice y4A y4.length y4C) rfl rfl rfl (V.pure rfl) (fun a hf => ?_)
                refine S.val hf hs (v := elemPtr y4A (1 * 1)) rfl rfl rfl (V.index rfl rfl rfl Tryz.runUnderlying74 Tryz.sizeOf9 (hs.ownSome 0 rfl (lt_of_get hx1)) h0x1 (lt_of_get hx1) rfl) (fun a hf => ?_)
                refine S.val hf hs (v := .string (ba x1)) rfl rfl rfl (V.loadOwn (off := 0) 0 rfl hx1 rfl rfl rfl Tryz.isAgg9 Tryz.sizeOf9 rfl rfl) (fun a hf => ?_)
                refine S.val hf hs (v := .agg #[.string (ba x1), .slice none 0 0]) rfl rfl rfl (V.build (places := #[(0, 1), (1, 1)]) rfl Tryz.zeroValue90 Tryz.runUnderlying90 (by intro w; simp [Tryz.sizeOf88, Tryz.sizeOf9]) rfl rfl) (fun a hf => ?_)
                replace hs := hs.nilOwn (α := Hole) 92
                refine S.build1 hf hs rfl rfl rfl (α := JobSh) (⟨x1, ⟨none, ([] : List Hole).length, 0⟩⟩ : JobSh) rfl rfl rfl Tryz.runUnderlying36 Tryz.sizeOf90 Tryz.zeroValue90 rfl (by decide) (fun A3 a w hf hs => ?_)
                replace hs := hs.front 1 rfl
                obtain ⟨hroom, h⟩ := h
                refine S.appendRow 2 hf hs rfl rfl rfl (⟨x1, ([] : List Hole)⟩ : Job) rfl rfl rfl rfl rfl Tryz.underlying36 info90 rfl hroom ((hs.ownView 1 rfl).some_ (i := 0) (by simp)) (hs.ownView 1 rfl) (fun A4 C2 a w hf hs => ?_)
                replace hs := hs.drop
                refine S.val hf hs (v := .slice A4 (l3 ++ [(⟨x1, ([] : List Hole)⟩ : Job)]).length C2) rfl rfl rfl (V.pure rfl) (fun a hf => ?_)
                refine R.nil ?_
                refine X.blk ?_
                refine X.then_ ?_
                exact ⟨(l3 ++ [(⟨x1, ([] : List Hole)⟩ : Job)]), A4, C2, (l3as ++ [(none, 0)]), l4, l4A, l4C, y7, h, ((((((hf.nil.cons (hf.get 13 _ rfl)).cons (hf.get 11 _ rfl)).cons (hf.get 10 _ rfl)).cons (hf.get 8 _ rfl)).cons (hf.get 7 _ rfl)).cons (hf.get 6 _ rfl)), hs⟩
              · replace h := h.2 hc
                refine wp_seq ?_
                refine C.cut (J := fun a w => ∃ (c5 : Bool), M_ref8_Read_k6 Q l3 l4 n2 again1 y2 y3 y4 c5 ∧ FrOk 119 [(6, .slice l4A l4.length l4C), (7, .slice l3A l3.length l3C), (8, .int .i64 n2), (10, .string (ba y2)), (11, .bool y3), (12, .slice y4A y4.length y4C), (13, .bool false), (72, .bool c5)] a ∧ Sat w0 none_ [hown 9 y4A y4C y4, hrows 90 92 l3A l3C l3as l3, hown 41 l4A l4C l4] w) ?_ ?_
                · rintro a w ⟨c5, h, hf, hs⟩
                  unfold M_ref8_Read_k6 at h
                  refine C.cond hf (b := c5) rfl (fun hc => ?_) (fun hc => ?_)
                  · replace h := h.1 hc
                    refine wp_seq ?_
                    refine R.list ?_
                    refine S.alloc hf hs rfl rfl rfl [.int .i64 0, .int .i64 0, .int .i64 0, .int .i64 0, .bool false] rfl Tryz.zeroValue92 rfl (fun g2 a w hf hs => ?_)
                    refine R.nil ?_
                    refine X.then_ ?_
                    refine wp_seq ?_
                    refine R.list ?_
                    refine S.val hf hs (v := .slice y4A y4.length y4C) rfl rfl rfl (V.pure rfl) (fun a hf => ?_)
                    refine S.call hf rfl rfl rfl (call_fn (vs := [.slice y4A y4.length y4C]) rfl rfl rfl Tryz.call50) (R_ref8_readHole y4 _ y4A y4C (hs.ownView 1 rfl) _ h) (fun v a w' hf hr => ?_)
                    obtain ⟨y8, y9, rfl, h2, hs2⟩ := hr
                    replace h := h2; replace hs := hs.call hs2; clear h2 hs2
                    refine S.val hf hs (v := .tuple #[.agg #[.int .i64 y8.At.X, .int .i64 y8.At.Y, .int .i64 y8.Size, .int .i64 y8.Depth, .bool y8.Plated], .bool y9]) rfl rfl rfl (V.pure rfl) (fun a hf => ?_)
                    refine S.val hf hs (v := .agg #[.int .i64 y8.At.X, .int .i64 y8.At.Y, .int .i64 y8.Size, .int .i64 y8.Depth, .bool y8.Plated]) rfl rfl rfl (V.pure rfl) (fun a hf => ?_)
                    refine S.val hf hs (v := .bool y9) rfl rfl rfl (V.pure rfl) (fun a hf => ?_)
                    refine S.storeBox 0 hf hs rfl rfl [.int .i64 y8.At.X, .int .i64 y8.At.Y, .int .i64 y8.Size, .int .i64 y8.Depth, .bool y8.Plated] [.int .i64 y8.At.X, .int .i64 y8.At.Y, .int .i64 y8.Size, .int .i64 y8.Depth, .bool y8.Plated] rfl rfl rfl rfl rfl Tryz.sizeOf92 rfl rfl rfl rfl (fun a w hf hs => ?_)
                    refine S.val hf hs (v := .bool y9) rfl rfl rfl (V.pure rfl) (fun a hf => ?_)
                    refine R.nil ?_
                    refine X.then_ ?_
                    refine H.start (S := Sat w0 none_ [hbox g2 92 [.int .i64 y8.At.X, .int .i64 y8.At.Y, .int .i64 y8.Size, .int .i64 y8.Depth, .bool y8.Plated], hown 9 y4A y4C y4, hown 41 l4A l4C l4]) mo ?_
                    replace hs := hs.drew
                    refine H.val hf (hs.mask [true, true, false, true]) (v := .slice l3A l3.length l3C) (i := 0) rfl rfl rfl rfl (by kernel_rfl) (by kernel_rfl) (by kernel_rfl) (V.pure rfl) (fun a hf => ?_)
                    refine H.val hf (hs.mask [true, true, false, true]) (v := .slice l3A l3.length l3C) (i := 1) rfl rfl rfl rfl (by kernel_rfl) (by kernel_rfl) (by kernel_rfl) (V.pure rfl) (fun a hf => ?_)
                    refine H.val hf (hs.mask [true, true, false, true]) (v := .int .i64 (l3.length : Int)) (i := 2) rfl rfl rfl rfl (by kernel_rfl) (by kernel_rfl) (by kernel_rfl) (V.len rfl rfl Tryz.runUnderlying36) (fun a hf => ?_)
                    refine H.val hf (hs.mask [true, true, false, true]) (v := .int .i64 (w64 ((l3.length : Int) - 1))) (i := 3) rfl rfl rfl rfl (by kernel_rfl) (by kernel_rfl) (by kernel_rfl) (V.pure rfl) (fun a hf => ?_)
                    refine H.val hf (hs.mask [true, true, false, true]) (v := .slice l3A l3.length l3C) (i := 4) rfl rfl rfl rfl (by kernel_rfl) (by kernel_rfl) (by kernel_rfl) (V.pure rfl) (fun a hf => ?_)
                    refine H.val hf (hs.mask [true, true, false, true]) (v := .slice l3A l3.length l3C) (i := 5) rfl rfl rfl rfl (by kernel_rfl) (by kernel_rfl) (by kernel_rfl) (V.pure rfl) (fun a hf => ?_)
                    refine H.val hf (hs.mask [true, true, false, true]) (v := .int .i64 (l3.length : Int)) (i := 6) rfl rfl rfl rfl (by kernel_rfl) (by kernel_rfl) (by kernel_rfl) (V.len rfl rfl Tryz.runUnderlying36) (fun a hf => ?_)
                    refine H.val hf (hs.mask [true, true, false, true]) (v := .int .i64 (w64 ((l3.length : Int) - 1))) (i := 7) rfl rfl rfl rfl (by kernel_rfl) (by kernel_rfl) (by kernel_rfl) (V.pure rfl) (fun a hf => ?_)
                    obtain ⟨h0x2, x2, hx2, h⟩ := h
                    refine H.val hf (hs.mask [true, true, false, true]) (v := elemPtr l3A ((w64 ((l3.length : Int) - 1)).toNat * 2)) (i := 8) rfl rfl rfl rfl (by kernel_rfl) (by kernel_rfl) (by kernel_rfl) (V.index rfl rfl rfl Tryz.runUnderlying36 Tryz.sizeOf90 (hs.rowsSome 2 rfl hx2) h0x2 (lt_of_get hx2) rfl) (fun a hf => ?_)
                    refine H.val hf (hs.mask [true, true, false, true]) (v := elemPtr l3A ((w64 ((l3.length : Int) - 1)).toNat * 2 + 1)) (i := 9) rfl rfl rfl rfl (by kernel_rfl) (by kernel_rfl) (by kernel_rfl) (V.fieldEl rfl rfl (hs.rowsSome 2 rfl hx2) Tryz.runUnderlying90 rfl Tryz.sizeOf88 rfl rfl) (fun a hf => ?_)
                    refine H.val hf (hs.mask [true, true, false, true]) (v := .agg #[.int .i64 y8.At.X, .int .i64 y8.At.Y, .int .i64 y8.Size, .int .i64 y8.Depth, .bool y8.Plated]) (i := 11) rfl rfl rfl rfl (by kernel_rfl) (by kernel_rfl) (by kernel_rfl) (V.loadBox 0 rfl rfl rfl Tryz.isAgg92 Tryz.sizeOf92 rfl rfl) (fun a hf => ?_)
                    refine H.each2 (i0 := 10) (i1 := 12) rfl rfl (by kernel_rfl) ?_ ?_
                    · obtain ⟨B1, D1, hrB1⟩ := hs.rowAt 2 rfl hx2
                      refine S.val hf hs (v := .slice B1 x2.Holes.length D1) rfl rfl rfl (V.loadRows (off := 1) 2 rfl hx2 hrB1 rfl rfl rfl Tryz.isAgg88 Tryz.sizeOf88 rfl rfl) (fun a hf => ?_)
                      refine R.nil ?_
                      refine X.then_ ?_
                      refine ⟨(hs.mask [true, true, false, true]), ?_⟩
                      refine H.one (i := 12) rfl (by kernel_rfl) ?_
                      refine S.build1 hf hs rfl rfl rfl (α := Hole) y8 rfl rfl rfl Tryz.runUnderlying88 Tryz.sizeOf92 Tryz.zeroValue92 rfl (by decide) (fun A5 a w hf hs => ?_)
                      refine R.nil ?_
                      refine X.then_ ?_
                      refine ⟨(hs.mask [false, true, true, false, true]), ?_⟩
                      refine H.one (i := 13) rfl (by kernel_rfl) ?_
                      replace hs := hs.takeRow 3 rfl hx2 hrB1
                      obtain ⟨hroom, h⟩ := h
                      refine S.appendCells 0 hf hs rfl rfl rfl rfl rfl rfl rfl Tryz.underlying88 info92 rfl hroom ((hs.ownView 1 rfl).some_ (i := 0) (by simp)) (hs.ownView 1 rfl) (fun A6 C3 a w hf hs => ?_)
                      refine R.nil ?_
                      refine X.then_ ?_
                      refine ⟨(hs.mask [false, false, true, true, false, true]), ?_⟩
                      refine H.val hf (hs.mask [false, false, true, true, false, true]) (v := elemPtr l3A ((w64 ((l3.length : Int) - 1)).toNat * 2)) (i := 14) rfl rfl rfl rfl (by kernel_rfl) (by kernel_rfl) (by kernel_rfl) (V.index rfl rfl rfl Tryz.runUnderlying36 Tryz.sizeOf90 (hs.rowsSomeX 4 rfl hx2) h0x2 (lt_of_get hx2) rfl) (fun a hf => ?_)
                      refine H.val hf (hs.mask [false, false, true, true, false, true]) (v := elemPtr l3A ((w64 ((l3.length : Int) - 1)).toNat * 2 + 1)) (i := 15) rfl rfl rfl rfl (by kernel_rfl) (by kernel_rfl) (by kernel_rfl) (V.fieldEl rfl rfl (hs.rowsSomeX 4 rfl hx2) Tryz.runUnderlying90 rfl Tryz.sizeOf88 rfl rfl) (fun a hf => ?_)
                      refine H.one (i := 16) rfl (by kernel_rfl) ?_
                      refine S.putBack (off := 1) 3 hf hs rfl rfl (⟨x2.Tool, (x2.Holes ++ [y8])⟩ : Job) [.slice A6 (x2.Holes ++ [y8]).length C3] rfl hx2 hrB1 rfl rfl rfl rfl rfl rfl Tryz.sizeOf88 rfl (by decide) rfl rfl (fun a w hf hs => ?_)
                      replace hf := hf.tell 7 (v := .slice l3A (l3.set ((w64 ((l3.length : Int) - 1)).toNat) (⟨x2.Tool, (x2.Holes ++ [y8])⟩ : Job)).length l3C) ((hf.get 7 (.slice l3A l3.length l3C) rfl).trans (congrArg (fun n => Value.slice l3A n l3C) List.length_set.symm))
                      replace hf := hf.tell 87 (v := .slice l3A (l3.set ((w64 ((l3.length : Int) - 1)).toNat) (⟨x2.Tool, (x2.Holes ++ [y8])⟩ : Job)).length l3C) ((hf.get 87 (.slice l3A l3.length l3C) rfl).trans (congrArg (fun n => Value.slice l3A n l3C) List.length_set.symm))
                      replace hf := hf.tell 88 (v := .slice l3A (l3.set ((w64 ((l3.length : Int) - 1)).toNat) (⟨x2.Tool, (x2.Holes ++ [y8])⟩ : Job)).length l3C) ((hf.get 88 (.slice l3A l3.length l3C) rfl).trans (congrArg (fun n => Value.slice l3A n l3C) List.length_set.symm))
                      replace hf := hf.tell 91 (v := .slice l3A (l3.set ((w64 ((l3.length : Int) - 1)).toNat) (⟨x2.Tool, (x2.Holes ++ [y8])⟩ : Job)).length l3C) ((hf.get 91 (.slice l3A l3.length l3C) rfl).trans (congrArg (fun n => Value.slice l3A n l3C) List.length_set.symm))
                      replace hf := hf.tell 92 (v := .slice l3A (l3.set ((w64 ((l3.length : Int) - 1)).toNat) (⟨x2.Tool, (x2.Holes ++ [y8])⟩ : Job)).length l3C) ((hf.get 92 (.slice l3A l3.length l3C) rfl).trans (congrArg (fun n => Value.slice l3A n l3C) List.length_set.symm))
                      have hx1 : (l3.set ((w64 ((l3.length : Int) - 1)).toNat) (⟨x2.Tool, (x2.Holes ++ [y8])⟩ : Job))[(w64 ((l3.length : Int) - 1)).toNat]? = some (⟨x2.Tool, (x2.Holes ++ [y8])⟩ : Job) := List.getElem?_set_self (lt_of_get hx2)
                      have hr1 : (l3as.set ((w64 ((l3.length : Int) - 1)).toNat) (A6, C3))[(w64 ((l3.length : Int) - 1)).toNat]? = some (A6, C3) := List.getElem?_set_self (lt_of_get hrB1)
                      refine R.nil ?_
                      refine X.then_ ?_
                      refine ⟨(hs.mask [false, true, true, false, true]), ?_⟩
                      refine H.done (by kernel_rfl) ?_
                      refine X.blk ?_
                      refine X.then_ ?_
                      exact ⟨(l3.set ((w64 ((l3.length : Int) - 1)).toNat) (⟨x2.Tool, (x2.Holes ++ [y8])⟩ : Job)), l3A, l3C, (l3as.set ((w64 ((l3.length : Int) - 1)).toNat) (A6, C3)), l4, l4A, l4C, y9, h, ((((((hf.nil.cons (hf.get 13 _ rfl)).cons (hf.get 11 _ rfl)).cons (hf.get 10 _ rfl)).cons (hf.get 8 _ rfl)).cons (hf.get 7 _ rfl)).cons (hf.get 6 _ rfl)), hs.drop.drop⟩
                    · refine S.build1 hf hs rfl rfl rfl (α := Hole) y8 rfl rfl rfl Tryz.runUnderlying88 Tryz.sizeOf92 Tryz.zeroValue92 rfl (by decide) (fun A5 a w hf hs => ?_)
                      refine R.nil ?_
                      refine X.then_ ?_
                      refine ⟨(hs.mask [false, true, true, false, true]), ?_⟩
                      refine H.one (i := 10) rfl (by kernel_rfl) ?_
                      obtain ⟨B1, D1, hrB1⟩ := hs.rowAt 3 rfl hx2
                      refine S.val hf hs (v := .slice B1 x2.Holes.length D1) rfl rfl rfl (V.loadRows (off := 1) 3 rfl hx2 hrB1 rfl rfl rfl Tryz.isAgg88 Tryz.sizeOf88 rfl rfl) (fun a hf => ?_)
                      refine R.nil ?_
                      refine X.then_ ?_
                      refine ⟨(hs.mask [false, true, true, false, true]), ?_⟩
                      refine H.one (i := 13) rfl (by kernel_rfl) ?_
                      replace hs := hs.takeRow 3 rfl hx2 hrB1
                      obtain ⟨hroom, h⟩ := h
                      refine S.appendCells 0 hf hs rfl rfl rfl rfl rfl rfl rfl Tryz.underlying88 info92 rfl hroom ((hs.ownView 1 rfl).some_ (i := 0) (by simp)) (hs.ownView 1 rfl) (fun A6 C3 a w hf hs => ?_)
                      refine R.nil ?_
                      refine X.then_ ?_
                      refine ⟨(hs.mask [false, false, true, true, false, true]), ?_⟩
                      refine H.val hf (hs.mask [false, false, true, true, false, true]) (v := elemPtr l3A ((w64 ((l3.length : Int) - 1)).toNat * 2)) (i := 14) rfl rfl rfl rfl (by kernel_rfl) (by kernel_rfl) (by kernel_rfl) (V.index rfl rfl rfl Tryz.runUnderlying36 Tryz.sizeOf90 (hs.rowsSomeX 4 rfl hx2) h0x2 (lt_of_get hx2) rfl) (fun a hf => ?_)
                      refine H.val hf (hs.mask [false, false, true, true, false, true]) (v := elemPtr l3A ((w64 ((l3.length : Int) - 1)).toNat * 2 + 1)) (i := 15) rfl rfl rfl rfl (by kernel_rfl) (by kernel_rfl) (by kernel_rfl) (V.fieldEl rfl rfl (hs.rowsSomeX 4 rfl hx2) Tryz.runUnderlying90 rfl Tryz.sizeOf88 rfl rfl) (fun a hf => ?_)
                      refine H.one (i := 16) rfl (by kernel_rfl) ?_
                      refine S.putBack (off := 1) 3 hf hs rfl rfl (⟨x2.Tool, (x2.Holes ++ [y8])⟩ : Job) [.slice A6 (x2.Holes ++ [y8]).length C3] rfl hx2 hrB1 rfl rfl rfl rfl rfl rfl Tryz.sizeOf88 rfl (by decide) rfl rfl (fun a w hf hs => ?_)
                      replace hf := hf.tell 7 (v := .slice l3A (l3.set ((w64 ((l3.length : Int) - 1)).toNat) (⟨x2.Tool, (x2.Holes ++ [y8])⟩ : Job)).length l3C) ((hf.get 7 (.slice l3A l3.length l3C) rfl).trans (congrArg (fun n => Value.slice l3A n l3C) List.length_set.symm))
                      replace hf := hf.tell 87 (v := .slice l3A (l3.set ((w64 ((l3.length : Int) - 1)).toNat) (⟨x2.Tool, (x2.Holes ++ [y8])⟩ : Job)).length l3C) ((hf.get 87 (.slice l3A l3.length l3C) rfl).trans (congrArg (fun n => Value.slice l3A n l3C) List.length_set.symm))
                      replace hf := hf.tell 88 (v := .slice l3A (l3.set ((w64 ((l3.length : Int) - 1)).toNat) (⟨x2.Tool, (x2.Holes ++ [y8])⟩ : Job)).length l3C) ((hf.get 88 (.slice l3A l3.length l3C) rfl).trans (congrArg (fun n => Value.slice l3A n l3C) List.length_set.symm))
                      replace hf := hf.tell 91 (v := .slice l3A (l3.set ((w64 ((l3.length : Int) - 1)).toNat) (⟨x2.Tool, (x2.Holes ++ [y8])⟩ : Job)).length l3C) ((hf.get 91 (.slice l3A l3.length l3C) rfl).trans (congrArg (fun n => Value.slice l3A n l3C) List.length_set.symm))
                      replace hf := hf.tell 92 (v := .slice l3A (l3.set ((w64 ((l3.length : Int) - 1)).toNat) (⟨x2.Tool, (x2.Holes ++ [y8])⟩ : Job)).length l3C) ((hf.get 92 (.slice l3A l3.length l3C) rfl).trans (congrArg (fun n => Value.slice l3A n l3C) List.length_set.symm))
                      have hx1 : (l3.set ((w64 ((l3.length : Int) - 1)).toNat) (⟨x2.Tool, (x2.Holes ++ [y8])⟩ : Job))[(w64 ((l3.length : Int) - 1)).toNat]? = some (⟨x2.Tool, (x2.Holes ++ [y8])⟩ : Job) := List.getElem?_set_self (lt_of_get hx2)
                      have hr1 : (l3as.set ((w64 ((l3.length : Int) - 1)).toNat) (A6, C3))[(w64 ((l3.length : Int) - 1)).toNat]? = some (A6, C3) := List.getElem?_set_self (lt_of_get hrB1)
                      refine R.nil ?_
                      refine X.then_ ?_
                      refine ⟨(hs.mask [false, true, true, false, true]), ?_⟩
                      refine H.done (by kernel_rfl) ?_
                      refine X.blk ?_
                      refine X.then_ ?_
                      exact ⟨(l3.set ((w64 ((l3.length : Int) - 1)).toNat) (⟨x2.Tool, (x2.Holes ++ [y8])⟩ : Job)), l3A, l3C, (l3as.set ((w64 ((l3.length : Int) - 1)).toNat) (A6, C3)), l4, l4A, l4C, y9, h, ((((((hf.nil.cons (hf.get 13 _ rfl)).cons (hf.get 11 _ rfl)).cons (hf.get 10 _ rfl)).cons (hf.get 8 _ rfl)).cons (hf.get 7 _ rfl)).cons (hf.get 6 _ rfl)), hs.drop.drop⟩
                  · replace h := h.2 hc
                    refine wp_skip ?_
                    refine X.blk ?_
                    refine X.then_ ?_
                    exact ⟨l3, l3A, l3C, l3as, l4, l4A, l4C, false, h, ((((((hf.nil.cons (hf.get 13 _ rfl)).cons (hf.get 11 _ rfl)).cons (hf.get 10 _ rfl)).cons (hf.get 8 _ rfl)).cons (hf.get 7 _ rfl)).cons (hf.get 6 _ rfl)), hs⟩
                · skip
                  refine R.list ?_
                  refine S.val hf hs (v := .slice y4A y4.length y4C) rfl rfl rfl (V.pure rfl) (fun a hf => ?_)
                  obtain ⟨h0x3, x3, hx3, h⟩ := h
                  refine S.val hf hs (v := elemPtr y4A (0 * 1)) rfl rfl rfl (V.index rfl rfl rfl Tryz.runUnderlying74 Tryz.sizeOf9 (hs.ownSome 0 rfl (lt_of_get hx3)) h0x3 (lt_of_get hx3) rfl) (fun a hf => ?_)
                  refine S.val hf hs (v := .string (ba x3)) rfl rfl rfl (V.loadOwn (off := 0) 0 rfl hx3 rfl rfl rfl Tryz.isAgg9 Tryz.sizeOf9 rfl rfl) (fun a hf => ?_)
                  refine S.val hf hs (v := .bool (x3 == [104, 111, 108, 101])) rfl rfl rfl (V.strCmp (x3 == [104, 111, 108, 101]) rfl rfl rfl rfl) (fun a hf => ?_)
                  refine S.split hf hs (b := x3 == [104, 111, 108, 101]) rfl rfl rfl (V.pure rfl) (fun hc a hf => ?_) (fun hc a hf => ?_)
                  · replace h := h.1 hc
                    refine S.val hf hs (v := .slice l3A l3.length l3C) rfl rfl rfl (V.pure rfl) (fun a hf => ?_)
                    refine S.val hf hs (v := .int .i64 (l3.length : Int)) rfl rfl rfl (V.len rfl rfl Tryz.runUnderlying36) (fun a hf => ?_)
                    refine S.val hf hs (v := .bool (decide ((l3.length : Int) > 0))) rfl rfl rfl (V.pure rfl) (fun a hf => ?_)
                    refine S.val hf hs (v := .bool (decide ((l3.length : Int) > 0))) rfl rfl rfl (V.pure rfl) (fun a hf => ?_)
                    refine S.val hf hs (v := .bool (decide ((l3.length : Int) > 0))) rfl rfl rfl (V.pure rfl) (fun a hf => ?_)
                    refine R.nil ?_
                    refine X.then_ ?_
                    exact ⟨(decide ((l3.length : Int) > 0)), h, ((((((((hf.nil.cons (hf.get 72 _ rfl)).cons (hf.get 13 _ rfl)).cons (hf.get 12 _ rfl)).cons (hf.get 11 _ rfl)).cons (hf.get 10 _ rfl)).cons (hf.get 8 _ rfl)).cons (hf.get 7 _ rfl)).cons (hf.get 6 _ rfl)), hs⟩
                  · replace h := h.2 hc
                    refine S.skip hf rfl rfl rfl (fun a hf => ?_)
                    refine S.skip hf rfl rfl rfl (fun a hf => ?_)
                    refine S.skip hf rfl rfl rfl (fun a hf => ?_)
                    refine S.val hf hs (v := .bool false) rfl rfl rfl (V.pure rfl) (fun a hf => ?_)
                    refine S.val hf hs (v := .bool false) rfl rfl rfl (V.pure rfl) (fun a hf => ?_)
                    refine R.nil ?_
                    refine X.then_ ?_
                    exact ⟨false, h, ((((((((hf.nil.cons (hf.get 72 _ rfl)).cons (hf.get 13 _ rfl)).cons (hf.get 12 _ rfl)).cons (hf.get 11 _ rfl)).cons (hf.get 10 _ rfl)).cons (hf.get 8 _ rfl)).cons (hf.get 7 _ rfl)).cons (hf.get 6 _ rfl)), hs⟩
            · skip
              refine R.list ?_
              refine S.val hf hs (v := .slice y4A y4.length y4C) rfl rfl rfl (V.pure rfl) (fun a hf => ?_)
              obtain ⟨h0x4, x4, hx4, h⟩ := h
              refine S.val hf hs (v := elemPtr y4A (0 * 1)) rfl rfl rfl (V.index rfl rfl rfl Tryz.runUnderlying74 Tryz.sizeOf9 (hs.ownSome 0 rfl (lt_of_get hx4)) h0x4 (lt_of_get hx4) rfl) (fun a hf => ?_)
              refine S.val hf hs (v := .string (ba x4)) rfl rfl rfl (V.loadOwn (off := 0) 0 rfl hx4 rfl rfl rfl Tryz.isAgg9 Tryz.sizeOf9 rfl rfl) (fun a hf => ?_)
              refine S.val hf hs (v := .bool (x4 == [106, 111, 98])) rfl rfl rfl (V.strCmp (x4 == [106, 111, 98]) rfl rfl rfl rfl) (fun a hf => ?_)
              refine S.split hf hs (b := x4 == [106, 111, 98]) rfl rfl rfl (V.pure rfl) (fun hc a hf => ?_) (fun hc a hf => ?_)
              · replace h := h.1 hc
                refine S.val hf hs (v := .slice y4A y4.length y4C) rfl rfl rfl (V.pure rfl) (fun a hf => ?_)
                refine S.val hf hs (v := .int .i64 (y4.length : Int)) rfl rfl rfl (V.len rfl rfl Tryz.runUnderlying74) (fun a hf => ?_)
                refine S.val hf hs (v := .bool ((y4.length : Int) == 2)) rfl rfl rfl (V.pure rfl) (fun a hf => ?_)
                refine S.val hf hs (v := .bool ((y4.length : Int) == 2)) rfl rfl rfl (V.pure rfl) (fun a hf => ?_)
                refine S.val hf hs (v := .bool ((y4.length : Int) == 2)) rfl rfl rfl (V.pure rfl) (fun a hf => ?_)
                refine R.nil ?_
                refine X.then_ ?_
                exact ⟨((y4.length : Int) == 2), h, ((((((((hf.nil.cons (hf.get 51 _ rfl)).cons (hf.get 13 _ rfl)).cons (hf.get 12 _ rfl)).cons (hf.get 11 _ rfl)).cons (hf.get 10 _ rfl)).cons (hf.get 8 _ rfl)).cons (hf.get 7 _ rfl)).cons (hf.get 6 _ rfl)), hs⟩
              · replace h := h.2 hc
                refine S.skip hf rfl rfl rfl (fun a hf => ?_)
                refine S.skip hf rfl rfl rfl (fun a hf => ?_)
                refine S.skip hf rfl rfl rfl (fun a hf => ?_)
                refine S.val hf hs (v := .bool false) rfl rfl rfl (V.pure rfl) (fun a hf => ?_)
                refine S.val hf hs (v := .bool false) rfl rfl rfl (V.pure rfl) (fun a hf => ?_)
                refine R.nil ?_
                refine X.then_ ?_
                exact ⟨false, h, ((((((((hf.nil.cons (hf.get 51 _ rfl)).cons (hf.get 13 _ rfl)).cons (hf.get 12 _ rfl)).cons (hf.get 11 _ rfl)).cons (hf.get 10 _ rfl)).cons (hf.get 8 _ rfl)).cons (hf.get 7 _ rfl)).cons (hf.get 6 _ rfl)), hs⟩
        · skip
          refine R.list ?_
          refine S.val hf hs (v := .slice y4A y4.length y4C) rfl rfl rfl (V.pure rfl) (fun a hf => ?_)
          obtain ⟨h0x5, x5, hx5, h⟩ := h
          refine S.val hf hs (v := elemPtr y4A (0 * 1)) rfl rfl rfl (V.index rfl rfl rfl Tryz.runUnderlying74 Tryz.sizeOf9 (hs.ownSome 0 rfl (lt_of_get hx5)) h0x5 (lt_of_get hx5) rfl) (fun a hf => ?_)
          refine S.val hf hs (v := .string (ba x5)) rfl rfl rfl (V.loadOwn (off := 0) 0 rfl hx5 rfl rfl rfl Tryz.isAgg9 Tryz.sizeOf9 rfl rfl) (fun a hf => ?_)
          refine S.val hf hs (v := .bool (x5 == [116, 111, 111, 108])) rfl rfl rfl (V.strCmp (x5 == [116, 111, 111, 108]) rfl rfl rfl rfl) (fun a hf => ?_)
          refine S.split hf hs (b := x5 == [116, 111, 111, 108]) rfl rfl rfl (V.pure rfl) (fun hc a hf => ?_) (fun hc a hf => ?_)
          · replace h := h.1 hc
            refine S.val hf hs (v := .slice l3A l3.length l3C) rfl rfl rfl (V.pure rfl) (fun a hf => ?_)
            refine S.val hf hs (v := .int .i64 (l3.length : Int)) rfl rfl rfl (V.len rfl rfl Tryz.runUnderlying36) (fun a hf => ?_)
            refine S.val hf hs (v := .bool ((l3.length : Int) == 0)) rfl rfl rfl (V.pure rfl) (fun a hf => ?_)
            refine S.val hf hs (v := .bool ((l3.length : Int) == 0)) rfl rfl rfl (V.pure rfl) (fun a hf => ?_)
            refine S.val hf hs (v := .bool ((l3.length : Int) == 0)) rfl rfl rfl (V.pure rfl) (fun a hf => ?_)
            refine R.nil ?_
            refine X.then_ ?_
            exact ⟨((l3.length : Int) == 0), h, ((((((((hf.nil.cons (hf.get 32 _ rfl)).cons (hf.get 13 _ rfl)).cons (hf.get 12 _ rfl)).cons (hf.get 11 _ rfl)).cons (hf.get 10 _ rfl)).cons (hf.get 8 _ rfl)).cons (hf.get 7 _ rfl)).cons (hf.get 6 _ rfl)), hs⟩
          · replace h := h.2 hc
            refine S.skip hf rfl rfl rfl (fun a hf => ?_)
            refine S.skip hf rfl rfl rfl (fun a hf => ?_)
            refine S.skip hf rfl rfl rfl (fun a hf => ?_)
            refine S.val hf hs (v := .bool false) rfl rfl rfl (V.pure rfl) (fun a hf => ?_)
            refine S.val hf hs (v := .bool false) rfl rfl rfl (V.pure rfl) (fun a hf => ?_)
            refine R.nil ?_
            refine X.then_ ?_
            exact ⟨false, h, ((((((((hf.nil.cons (hf.get 32 _ rfl)).cons (hf.get 13 _ rfl)).cons (hf.get 12 _ rfl)).cons (hf.get 11 _ rfl)).cons (hf.get 10 _ rfl)).cons (hf.get 8 _ rfl)).cons (hf.get 7 _ rfl)).cons (hf.get 6 _ rfl)), hs⟩
    · replace h := h.2 hc
      refine wp_exit ?_
      refine X.then_exit ?_
      refine X.then_exit ?_
      refine X.blk_exit ?_
      refine X.then_ ?_
      refine wp_seq ?_
      refine wp_seq ?_
      refine R.list ?_
      refine S.val hf hs (v := .slice l4A l4.length l4C) rfl rfl rfl (V.pure rfl) (fun a hf => ?_)
      refine S.val hf hs (v := .slice l3A l3.length l3C) rfl rfl rfl (V.pure rfl) (fun a hf => ?_)
      refine S.call hf rfl rfl rfl (call_fn (vs := [.slice l4A l4.length l4C, .slice l3A l3.length l3C]) rfl rfl rfl Tryz.call51) (R_ref8_CheckJobs l4 l3 _ l4A l4C (hs.ownView 1 rfl) l3A l3C (hs.rowsView 0 rfl) _ h) (fun v a w' hf hr => ?_)
      obtain ⟨y10, rfl, h2, hs2⟩ := hr
      replace h := h2; replace hs := hs.call hs2; clear h2 hs2
      refine S.val hf hs (v := .int .i64 y10) rfl rfl rfl (V.pure rfl) (fun a hf => ?_)
      refine R.nil ?_
      refine X.then_ ?_
      refine wp_seq ?_
      refine R.list ?_
      refine S.val hf hs (v := .int .i64 y10) rfl rfl rfl (V.pure rfl) (fun a hf => ?_)
      refine S.val hf hs (v := .bool (y10 != 0)) rfl rfl rfl (V.pure rfl) (fun a hf => ?_)
      refine R.nil ?_
      refine X.then_ ?_
      refine C.cond hf (b := y10 != 0) rfl (fun hc => ?_) (fun hc => ?_)
      · replace h := h.1 hc
        refine wp_seq ?_
        refine R.list ?_
        refine S.val hf hs (v := .int .i64 y10) rfl rfl rfl (V.pure rfl) (fun a hf => ?_)
        refine S.val hf hs (v := .slice none 0 0) rfl rfl rfl (V.pure rfl) (fun a hf => ?_)
        refine S.val hf hs (v := .slice none 0 0) rfl rfl rfl (V.pure rfl) (fun a hf => ?_)
        refine S.val hf hs (v := .int .i64 0) rfl rfl rfl (V.pure rfl) (fun a hf => ?_)
        refine S.val hf hs (v := .int .i64 y10) rfl rfl rfl (V.pure rfl) (fun a hf => ?_)
        refine R.nil ?_
        refine X.then_ ?_
        refine wp_ret ?_
        refine X.then_ret ?_
        replace hs := hs.nilOwn (α := Bit) 41
        replace hs := hs.nilRows (α := Job) 90 92
        replace hs := hs.front 1 rfl
        replace hs := hs.take 2
        exact L.ret hf (run_results4 Tryz.results17 (ResIs.tmp hf rfl) (ResIs.tmp hf rfl) (ResIs.tmp hf rfl) (ResIs.tmp hf rfl)) ⟨([] : List Bit), none, 0, ([] : List Job), none, 0, [], 0, y10, rfl, h, hs⟩
      · replace h := h.2 hc
        refine wp_skip ?_
        refine X.then_ ?_
        refine wp_seq ?_
        refine R.list ?_
        refine S.val hf hs (v := .slice l4A l4.length l4C) rfl rfl rfl (V.pure rfl) (fun a hf => ?_)
        refine S.val hf hs (v := .slice l3A l3.length l3C) rfl rfl rfl (V.pure rfl) (fun a hf => ?_)
        refine S.val hf hs (v := .slice l4A l4.length l4C) rfl rfl rfl (V.pure rfl) (fun a hf => ?_)
        refine S.val hf hs (v := .slice l3A l3.length l3C) rfl rfl rfl (V.pure rfl) (fun a hf => ?_)
        refine S.val hf hs (v := .int .i64 0) rfl rfl rfl (V.pure rfl) (fun a hf => ?_)
        refine S.val hf hs (v := .int .i64 0) rfl rfl rfl (V.pure rfl) (fun a hf => ?_)
        refine R.nil ?_
        refine X.then_ ?_
        refine wp_ret ?_
        replace hs := hs.front 1 rfl
        replace hs := hs.take 2
        exact L.ret hf (run_results4 Tryz.results17 (ResIs.tmp hf rfl) (ResIs.tmp hf rfl) (ResIs.tmp hf rfl) (ResIs.tmp hf rfl)) ⟨l4, l4A, l4C, l3, l3A, l3C, l3as, 0, 0, rfl, h, hs⟩

set_option linter.unusedVariables false
def M_equal_bit_L1 (s2 : (List Bit)) (Q : Bool → Prop) (k1 : Nat) (xk1 : Bit)  (next1 : Prop) : Prop :=
  idx s2 (k1 : Int) fun x1 => cnd (!(decide (xk1 = x1))) (Q false) (next1)
def M_equal_bit (s1 : (List Bit)) (s2 : (List Bit)) (Q : Bool → Prop) : Prop :=
  cnd ((s1.length : Int) != (s2.length : Int)) (Q false) (forIn' (fun k x (s : Unit) next => M_equal_bit_L1 s2 Q k x (next ())) (fun (s : Unit) => Q true) s1 0 ())
set_option maxHeartbeats 1000000 in
theorem R_equal_bit (s1 : (List Bit)) (s2 : (List Bit)) (w0 : World) (s1A : Option Addr) (s1C : Nat) (hv_s1 : View w0 (old w0 none_) s1A s1C s1) (s2A : Option Addr) (s2C : Nat) (hv_s2 : View w0 (old w0 none_) s2A s2C s2) (Q : Bool → Prop) (h : M_equal_bit s1 s2 Q) :
    Ret Tryz.prog 18 #[.slice s1A s1.length s1C, .slice s2A s2.length s2C] w0 fun v w' => ∃ (r0 : Bool), v = .bool r0 ∧ Q r0 ∧ Sat w0 none_ [] w' := by
  refine fn_enter Tryz.func18 rfl Tryz.ntmps18 rfl (fs := [(0, .slice s1A s1.length s1C), (1, .slice s2A s2.length s2C)]) rfl (fun a hf => ?_)
  have hs := Sat.start w0 none_
  unfold M_equal_bit at h
  refine wp_seq ?_
  refine R.list ?_
  refine S.val hf hs (v := .bool false) rfl rfl rfl (V.pure rfl) (fun a hf => ?_)
  refine R.nil ?_
  refine X.then_ ?_
  refine wp_seq ?_
  refine wp_seq ?_
  refine R.list ?_
  refine S.val hf hs (v := .slice s1A s1.length s1C) rfl rfl rfl (V.pure rfl) (fun a hf => ?_)
  refine S.val hf hs (v := .int .i64 (s1.length : Int)) rfl rfl rfl (V.len rfl rfl Tryz.runUnderlying35) (fun a hf => ?_)
  refine S.val hf hs (v := .slice s2A s2.length s2C) rfl rfl rfl (V.pure rfl) (fun a hf => ?_)
  refine S.val hf hs (v := .int .i64 (s2.length : Int)) rfl rfl rfl (V.len rfl rfl Tryz.runUnderlying35) (fun a hf => ?_)
  refine S.val hf hs (v := .bool ((s1.length : Int) != (s2.length : Int))) rfl rfl rfl (V.pure rfl) (fun a hf => ?_)
  refine R.nil ?_
  refine X.then_ ?_
  refine C.cond hf (b := (s1.length : Int) != (s2.length : Int)) rfl (fun hc => ?_) (fun hc => ?_)
  · replace h := h.1 hc
    refine wp_seq ?_
    refine R.list ?_
    refine S.val hf hs (v := .bool false) rfl rfl rfl (V.pure rfl) (fun a hf => ?_)
    refine R.nil ?_
    refine X.then_ ?_
    refine wp_ret ?_
    refine X.then_ret ?_
    exact L.ret hf (run_results1 Tryz.results18 (ResIs.tmp hf rfl)) ⟨false, rfl, h, hs.nil⟩
  · replace h := h.2 hc
    refine wp_skip ?_
    refine X.then_ ?_
    refine wp_seq ?_
    refine wp_seq ?_
    refine R.list ?_
    refine S.val hf hs (v := .slice s1A s1.length s1C) rfl rfl rfl (V.pure rfl) (fun a hf => ?_)
    refine S.val hf hs (v := .int .i64 (s1.length : Int)) rfl rfl rfl (V.len rfl rfl Tryz.runUnderlying35) (fun a hf => ?_)
    refine S.val hf hs (v := .int .i64 0) rfl rfl rfl (V.pure rfl) (fun a hf => ?_)
    refine R.nil ?_
    refine X.then_ ?_
    refine wp_block ?_
    have hlenk1 := hv_s1.len64
    refine C.range (fun (ll : List Bit) a w => ∃ (k1 : Nat) , s1.drop k1 = ll ∧ k1 + ll.length = s1.length ∧ forIn' (fun k x (s : Unit) next => M_equal_bit_L1 s2 Q k x (next ())) (fun (s : Unit) => Q true) ll k1 () ∧ FrOk 26 [(13, .int .i64 (k1 : Int)), (0, .slice s1A s1.length s1C), (1, .slice s2A s2.length s2C), (12, .int .i64 (s1.length : Int))] a ∧ Sat w0 none_ [] w) s1 ⟨0, rfl, Nat.zero_add _, h, ((((hf.nil.cons (hf.get 12 _ rfl)).cons (hf.get 1 _ rfl)).cons (hf.get 0 _ rfl)).cons (hf.get 13 _ rfl)), hs⟩ ?_
    clear h hf hs
    rintro llk1 a w ⟨k1, hlk1, hkk1, h, hf, hs⟩
    cases llk1 with
    | nil =>
      have hc := range_done hkk1
      replace h : Q true := h
      refine wp_seq ?_
      refine R.list ?_
      refine S.val hf hs (v := .bool false) rfl rfl rfl (V.cmp false rfl rfl rfl rfl hc) (fun a hf => ?_)
      refine R.nil ?_
      refine X.then_ ?_
      refine wp_seq ?_
      refine C.no hf rfl ?_
      refine wp_exit ?_
      refine X.then_exit ?_
      refine X.then_exit ?_
      refine X.blk_exit ?_
      refine X.then_ ?_
      refine wp_seq ?_
      refine R.list ?_
      refine S.val hf hs (v := .bool true) rfl rfl rfl (V.pure rfl) (fun a hf => ?_)
      refine R.nil ?_
      refine X.then_ ?_
      refine wp_ret ?_
      exact L.ret hf (run_results1 Tryz.results18 (ResIs.tmp hf rfl)) ⟨true, rfl, h, hs.nil⟩
    | cons xk1 llk1 =>
      have hltk1 := range_lt hkk1; have hc := range_go hkk1; have hxk1 := range_get hlk1
      obtain ⟨next1, hnext1⟩ : ∃ X : Prop, X = (forIn' (fun k x (s : Unit) next => M_equal_bit_L1 s2 Q k x (next ())) (fun (s : Unit) => Q true) llk1 (k1 + 1) ()) := ⟨_, rfl⟩
      replace h : M_equal_bit_L1 s2 Q k1 xk1  next1 := by rw [hnext1]; exact h
      unfold M_equal_bit_L1 at h
      refine wp_seq ?_
      refine R.list ?_
      refine S.val hf hs (v := .bool true) rfl rfl rfl (V.cmp true rfl rfl rfl rfl hc) (fun a hf => ?_)
      refine R.nil ?_
      refine X.then_ ?_
      refine wp_seq ?_
      refine C.yes hf rfl ?_
      refine wp_skip ?_
      refine X.then_ ?_
      refine wp_seq ?_
      refine wp_block ?_
      refine wp_seq ?_
      refine R.list ?_
      refine S.val hf hs (v := .int .i64 (k1 : Int)) rfl rfl rfl (V.pure rfl) (fun a hf => ?_)
      refine S.val hf hs (v := .int .i64 (k1 : Int)) rfl rfl rfl (V.pure rfl) (fun a hf => ?_)
      refine R.nil ?_
      refine X.then_ ?_
      refine wp_seq ?_
      refine R.draw mo (by kernel_rfl) hs ?_
      refine D.val hf (v := .slice s1A s1.length s1C) rfl rfl rfl (V.pure rfl) (fun a hf => ?_)
      refine D.val hf (v := .int .i64 (k1 : Int)) rfl rfl rfl (V.pure rfl) (fun a hf => ?_)
      refine D.val hf (v := elemPtr s1A (k1 * 4)) rfl rfl rfl (V.index rfl rfl rfl Tryz.runUnderlying35 Tryz.sizeOf41 (hv_s1.some_ (lt_of_get hxk1)) (Int.natCast_nonneg _) (lt_of_get hxk1) rfl) (fun a hf => ?_)
      refine D.val hf (v := .agg #[.string (ba xk1.Name), .int .i64 xk1.Size, .int .i64 xk1.Life, .int .i64 xk1.Stack]) rfl rfl rfl (V.loadEl (off := 0) (Ag.args _ _ _) (hv_s1.flat hxk1) rfl rfl rfl Tryz.isAgg41 Tryz.sizeOf41 rfl rfl) (fun a hf => ?_)
      refine D.val hf (v := .slice s2A s2.length s2C) rfl rfl rfl (V.pure rfl) (fun a hf => ?_)
      refine D.val hf (v := .int .i64 (k1 : Int)) rfl rfl rfl (V.pure rfl) (fun a hf => ?_)
      obtain ⟨h0x1, x1, hx1, h⟩ := h
      refine D.val hf (v := elemPtr s2A (k1 * 4)) rfl rfl rfl (V.index rfl rfl rfl Tryz.runUnderlying35 Tryz.sizeOf41 (hv_s2.some_ (lt_of_get hx1)) (Int.natCast_nonneg _) (lt_of_get hx1) rfl) (fun a hf => ?_)
      refine D.val hf (v := .agg #[.string (ba x1.Name), .int .i64 x1.Size, .int .i64 x1.Life, .int .i64 x1.Stack]) rfl rfl rfl (V.loadEl (off := 0) (Ag.args _ _ _) (hv_s2.flat hx1) rfl rfl rfl Tryz.isAgg41 Tryz.sizeOf41 rfl rfl) (fun a hf => ?_)
      refine D.val hf (v := .bool (!(decide (xk1 = x1)))) rfl rfl rfl (V.aggneq rfl rfl rfl (by kernel_rfl) (fun w => eqS41 xk1 x1 w)) (fun a hf => ?_)
      refine D.done (fun w hs => ?_)
      refine X.then_ ?_
      refine C.cond hf (b := !(decide (xk1 = x1))) rfl (fun hc => ?_) (fun hc => ?_)
      · replace h := h.1 hc
        refine wp_seq ?_
        refine R.list ?_
        refine S.val hf hs (v := .bool false) rfl rfl rfl (V.pure rfl) (fun a hf => ?_)
        refine R.nil ?_
        refine X.then_ ?_
        refine wp_ret ?_
        refine X.blk_ret ?_
        refine X.then_ret ?_
        refine X.then_ret ?_
        refine X.blk_ret ?_
        refine X.then_ret ?_
        exact L.ret hf (run_results1 Tryz.results18 (ResIs.tmp hf rfl)) ⟨false, rfl, h, hs.nil⟩
      · replace h := h.2 hc
        refine wp_skip ?_
        refine X.blk ?_
        refine X.then_ ?_
        refine R.list ?_
        refine S.val hf hs (v := .int .i64 ((k1 + 1 : Nat) : Int)) rfl rfl rfl (V.incr rfl rfl rfl hltk1 hlenk1) (fun a hf => ?_)
        refine S.val hf hs (v := .int .i64 ((k1 + 1 : Nat) : Int)) rfl rfl rfl (V.pure rfl) (fun a hf => ?_)
        refine R.nil ?_
        refine X.then_ ?_
        exact ⟨xk1, llk1, rfl, k1 + 1, range_drop hlk1, range_len hkk1, (by rw [hnext1] at h; exact h), ((((hf.nil.cons (hf.get 12 _ rfl)).cons (hf.get 1 _ rfl)).cons (hf.get 0 _ rfl)).cons (hf.get 13 _ rfl)), hs⟩

set_option linter.unusedVariables false
def M_equal_hole_L1 (s2 : (List Hole)) (Q : Bool → Prop) (k1 : Nat) (xk1 : Hole)  (next1 : Prop) : Prop :=
  idx s2 (k1 : Int) fun x1 => cnd (!(decide (xk1 = x1))) (Q false) (next1)
def M_equal_hole (s1 : (List Hole)) (s2 : (List Hole)) (Q : Bool → Prop) : Prop :=
  cnd ((s1.length : Int) != (s2.length : Int)) (Q false) (forIn' (fun k x (s : Unit) next => M_equal_hole_L1 s2 Q k x (next ())) (fun (s : Unit) => Q true) s1 0 ())
set_option maxHeartbeats 1000000 in
theorem R_equal_hole (s1 : (List Hole)) (s2 : (List Hole)) (w0 : World) (s1A : Option Addr) (s1C : Nat) (hv_s1 : View w0 (old w0 none_) s1A s1C s1) (s2A : Option Addr) (s2C : Nat) (hv_s2 : View w0 (old w0 none_) s2A s2C s2) (Q : Bool → Prop) (h : M_equal_hole s1 s2 Q) :
    Ret Tryz.prog 52 #[.slice s1A s1.length s1C, .slice s2A s2.length s2C] w0 fun v w' => ∃ (r0 : Bool), v = .bool r0 ∧ Q r0 ∧ Sat w0 none_ [] w' := by
  refine fn_enter Tryz.func52 rfl Tryz.ntmps52 rfl (fs := [(0, .slice s1A s1.length s1C), (1, .slice s2A s2.length s2C)]) rfl (fun a hf => ?_)
  have hs := Sat.start w0 none_
  unfold M_equal_hole at h
  refine wp_seq ?_
  refine R.list ?_
  refine S.val hf hs (v := .bool false) rfl rfl rfl (V.pure rfl) (fun a hf => ?_)
  refine R.nil ?_
  refine X.then_ ?_
  refine wp_seq ?_
  refine wp_seq ?_
  refine R.list ?_
  refine S.val hf hs (v := .slice s1A s1.length s1C) rfl rfl rfl (V.pure rfl) (fun a hf => ?_)
  refine S.val hf hs (v := .int .i64 (s1.length : Int)) rfl rfl rfl (V.len rfl rfl Tryz.runUnderlying88) (fun a hf => ?_)
  refine S.val hf hs (v := .slice s2A s2.length s2C) rfl rfl rfl (V.pure rfl) (fun a hf => ?_)
  refine S.val hf hs (v := .int .i64 (s2.length : Int)) rfl rfl rfl (V.len rfl rfl Tryz.runUnderlying88) (fun a hf => ?_)
  refine S.val hf hs (v := .bool ((s1.length : Int) != (s2.length : Int))) rfl rfl rfl (V.pure rfl) (fun a hf => ?_)
  refine R.nil ?_
  refine X.then_ ?_
  refine C.cond hf (b := (s1.length : Int) != (s2.length : Int)) rfl (fun hc => ?_) (fun hc => ?_)
  · replace h := h.1 hc
    refine wp_seq ?_
    refine R.list ?_
    refine S.val hf hs (v := .bool false) rfl rfl rfl (V.pure rfl) (fun a hf => ?_)
    refine R.nil ?_
    refine X.then_ ?_
    refine wp_ret ?_
    refine X.then_ret ?_
    exact L.ret hf (run_results1 Tryz.results52 (ResIs.tmp hf rfl)) ⟨false, rfl, h, hs.nil⟩
  · replace h := h.2 hc
    refine wp_skip ?_
    refine X.then_ ?_
    refine wp_seq ?_
    refine wp_seq ?_
    refine R.list ?_
    refine S.val hf hs (v := .slice s1A s1.length s1C) rfl rfl rfl (V.pure rfl) (fun a hf => ?_)
    refine S.val hf hs (v := .int .i64 (s1.length : Int)) rfl rfl rfl (V.len rfl rfl Tryz.runUnderlying88) (fun a hf => ?_)
    refine S.val hf hs (v := .int .i64 0) rfl rfl rfl (V.pure rfl) (fun a hf => ?_)
    refine R.nil ?_
    refine X.then_ ?_
    refine wp_block ?_
    have hlenk1 := hv_s1.len64
    refine C.range (fun (ll : List Hole) a w => ∃ (k1 : Nat) , s1.drop k1 = ll ∧ k1 + ll.length = s1.length ∧ forIn' (fun k x (s : Unit) next => M_equal_hole_L1 s2 Q k x (next ())) (fun (s : Unit) => Q true) ll k1 () ∧ FrOk 26 [(13, .int .i64 (k1 : Int)), (0, .slice s1A s1.length s1C), (1, .slice s2A s2.length s2C), (12, .int .i64 (s1.length : Int))] a ∧ Sat w0 none_ [] w) s1 ⟨0, rfl, Nat.zero_add _, h, ((((hf.nil.cons (hf.get 12 _ rfl)).cons (hf.get 1 _ rfl)).cons (hf.get 0 _ rfl)).cons (hf.get 13 _ rfl)), hs⟩ ?_
    clear h hf hs
    rintro llk1 a w ⟨k1, hlk1, hkk1, h, hf, hs⟩
    cases llk1 with
    | nil =>
      have hc := range_done hkk1
      replace h : Q true := h
      refine wp_seq ?_
      refine R.list ?_
      refine S.val hf hs (v := .bool false) rfl rfl rfl (V.cmp false rfl rfl rfl rfl hc) (fun a hf => ?_)
      refine R.nil ?_
      refine X.then_ ?_
      refine wp_seq ?_
      refine C.no hf rfl ?_
      refine wp_exit ?_
      refine X.then_exit ?_
      refine X.then_exit ?_
      refine X.blk_exit ?_
      refine X.then_ ?_
      refine wp_seq ?_
      refine R.list ?_
      refine S.val hf hs (v := .bool true) rfl rfl rfl (V.pure rfl) (fun a hf => ?_)
      refine R.nil ?_
      refine X.then_ ?_
      refine wp_ret ?_
      exact L.ret hf (run_results1 Tryz.results52 (ResIs.tmp hf rfl)) ⟨true, rfl, h, hs.nil⟩
    | cons xk1 llk1 =>
      have hltk1 := range_lt hkk1; have hc := range_go hkk1; have hxk1 := range_get hlk1
      obtain ⟨next1, hnext1⟩ : ∃ X : Prop, X = (forIn' (fun k x (s : Unit) next => M_equal_hole_L1 s2 Q k x (next ())) (fun (s : Unit) => Q true) llk1 (k1 + 1) ()) := ⟨_, rfl⟩
      replace h : M_equal_hole_L1 s2 Q k1 xk1  next1 := by rw [hnext1]; exact h
      unfold M_equal_hole_L1 at h
      refine wp_seq ?_
      refine R.list ?_
      refine S.val hf hs (v := .bool true) rfl rfl rfl (V.cmp true rfl rfl rfl rfl hc) (fun a hf => ?_)
      refine R.nil ?_
      refine X.then_ ?_
      refine wp_seq ?_
      refine C.yes hf rfl ?_
      refine wp_skip ?_
      refine X.then_ ?_
      refine wp_seq ?_
      refine wp_block ?_
      refine wp_seq ?_
      refine R.list ?_
      refine S.val hf hs (v := .int .i64 (k1 : Int)) rfl rfl rfl (V.pure rfl) (fun a hf => ?_)
      refine S.val hf hs (v := .int .i64 (k1 : Int)) rfl rfl rfl (V.pure rfl) (fun a hf => ?_)
      refine R.nil ?_
      refine X.then_ ?_
      refine wp_seq ?_
      refine R.draw mo (by kernel_rfl) hs ?_
      refine D.val hf (v := .slice s1A s1.length s1C) rfl rfl rfl (V.pure rfl) (fun a hf => ?_)
      refine D.val hf (v := .int .i64 (k1 : Int)) rfl rfl rfl (V.pure rfl) (fun a hf => ?_)
      refine D.val hf (v := elemPtr s1A (k1 * 5)) rfl rfl rfl (V.index rfl rfl rfl Tryz.runUnderlying88 Tryz.sizeOf92 (hv_s1.some_ (lt_of_get hxk1)) (Int.natCast_nonneg _) (lt_of_get hxk1) rfl) (fun a hf => ?_)
      refine D.val hf (v := .agg #[.int .i64 xk1.At.X, .int .i64 xk1.At.Y, .int .i64 xk1.Size, .int .i64 xk1.Depth, .bool xk1.Plated]) rfl rfl rfl (V.loadEl (off := 0) (Ag.args _ _ _) (hv_s1.flat hxk1) rfl rfl rfl Tryz.isAgg92 Tryz.sizeOf92 rfl rfl) (fun a hf => ?_)
      refine D.val hf (v := .slice s2A s2.length s2C) rfl rfl rfl (V.pure rfl) (fun a hf => ?_)
      refine D.val hf (v := .int .i64 (k1 : Int)) rfl rfl rfl (V.pure rfl) (fun a hf => ?_)
      obtain ⟨h0x1, x1, hx1, h⟩ := h
      refine D.val hf (v := elemPtr s2A (k1 * 5)) rfl rfl rfl (V.index rfl rfl rfl Tryz.runUnderlying88 Tryz.sizeOf92 (hv_s2.some_ (lt_of_get hx1)) (Int.natCast_nonneg _) (lt_of_get hx1) rfl) (fun a hf => ?_)
      refine D.val hf (v := .agg #[.int .i64 x1.At.X, .int .i64 x1.At.Y, .int .i64 x1.Size, .int .i64 x1.Depth, .bool x1.Plated]) rfl rfl rfl (V.loadEl (off := 0) (Ag.args _ _ _) (hv_s2.flat hx1) rfl rfl rfl Tryz.isAgg92 Tryz.sizeOf92 rfl rfl) (fun a hf => ?_)
      refine D.val hf (v := .bool (!(decide (xk1 = x1)))) rfl rfl rfl (V.aggneq rfl rfl rfl (by kernel_rfl) (fun w => eqS92 xk1 x1 w)) (fun a hf => ?_)
      refine D.done (fun w hs => ?_)
      refine X.then_ ?_
      refine C.cond hf (b := !(decide (xk1 = x1))) rfl (fun hc => ?_) (fun hc => ?_)
      · replace h := h.1 hc
        refine wp_seq ?_
        refine R.list ?_
        refine S.val hf hs (v := .bool false) rfl rfl rfl (V.pure rfl) (fun a hf => ?_)
        refine R.nil ?_
        refine X.then_ ?_
        refine wp_ret ?_
        refine X.blk_ret ?_
        refine X.then_ret ?_
        refine X.then_ret ?_
        refine X.blk_ret ?_
        refine X.then_ret ?_
        exact L.ret hf (run_results1 Tryz.results52 (ResIs.tmp hf rfl)) ⟨false, rfl, h, hs.nil⟩
      · replace h := h.2 hc
        refine wp_skip ?_
        refine X.blk ?_
        refine X.then_ ?_
        refine R.list ?_
        refine S.val hf hs (v := .int .i64 ((k1 + 1 : Nat) : Int)) rfl rfl rfl (V.incr rfl rfl rfl hltk1 hlenk1) (fun a hf => ?_)
        refine S.val hf hs (v := .int .i64 ((k1 + 1 : Nat) : Int)) rfl rfl rfl (V.pure rfl) (fun a hf => ?_)
        refine R.nil ?_
        refine X.then_ ?_
        exact ⟨xk1, llk1, rfl, k1 + 1, range_drop hlk1, range_len hkk1, (by rw [hnext1] at h; exact h), ((((hf.nil.cons (hf.get 12 _ rfl)).cons (hf.get 1 _ rfl)).cons (hf.get 0 _ rfl)).cons (hf.get 13 _ rfl)), hs⟩

set_option linter.unusedVariables false
def M_ref8_SameJobs_k2 (Q : Bool → Prop) (next1 : Prop) (c1 : Bool) : Prop :=
  cnd c1 (Q false) (next1)
def M_ref8_SameJobs_L1 (b : (List Job)) (Q : Bool → Prop) (k1 : Nat) (xk1 : Job)  (next1 : Prop) : Prop :=
  idx b (k1 : Int) fun x1 => cnd (!(xk1.Tool == x1.Tool)) (M_ref8_SameJobs_k2 Q next1 true) (M_equal_hole xk1.Holes x1.Holes fun y1 => M_ref8_SameJobs_k2 Q next1 (!y1))
def M_ref8_SameJobs (a_ : (List Job)) (b : (List Job)) (Q : Bool → Prop) : Prop :=
  cnd ((a_.length : Int) != (b.length : Int)) (Q false) (forIn' (fun k x (s : Unit) next => M_ref8_SameJobs_L1 b Q k x (next ())) (fun (s : Unit) => Q true) a_ 0 ())
set_option maxHeartbeats 1000000 in
theorem R_ref8_SameJobs (a_ : (List Job)) (b : (List Job)) (w0 : World) (a_A : Option Addr) (a_C : Nat) (hv_a_ : View w0 (old w0 none_) a_A a_C a_) (bA : Option Addr) (bC : Nat) (hv_b : View w0 (old w0 none_) bA bC b) (Q : Bool → Prop) (h : M_ref8_SameJobs a_ b Q) :
    Ret Tryz.prog 19 #[.slice a_A a_.length a_C, .slice bA b.length bC] w0 fun v w' => ∃ (r0 : Bool), v = .bool r0 ∧ Q r0 ∧ Sat w0 none_ [] w' := by
  refine fn_enter Tryz.func19 rfl Tryz.ntmps19 rfl (fs := [(0, .slice a_A a_.length a_C), (1, .slice bA b.length bC)]) rfl (fun a hf => ?_)
  have hs := Sat.start w0 none_
  unfold M_ref8_SameJobs at h
  refine wp_seq ?_
  refine R.list ?_
  refine S.val hf hs (v := .bool false) rfl rfl rfl (V.pure rfl) (fun a hf => ?_)
  refine R.nil ?_
  refine X.then_ ?_
  refine wp_seq ?_
  refine wp_seq ?_
  refine R.list ?_
  refine S.val hf hs (v := .slice a_A a_.length a_C) rfl rfl rfl (V.pure rfl) (fun a hf => ?_)
  refine S.val hf hs (v := .int .i64 (a_.length : Int)) rfl rfl rfl (V.len rfl rfl Tryz.runUnderlying36) (fun a hf => ?_)
  refine S.val hf hs (v := .slice bA b.length bC) rfl rfl rfl (V.pure rfl) (fun a hf => ?_)
  refine S.val hf hs (v := .int .i64 (b.length : Int)) rfl rfl rfl (V.len rfl rfl Tryz.runUnderlying36) (fun a hf => ?_)
  refine S.val hf hs (v := .bool ((a_.length : Int) != (b.length : Int))) rfl rfl rfl (V.pure rfl) (fun a hf => ?_)
  refine R.nil ?_
  refine X.then_ ?_
  refine C.cond hf (b := (a_.length : Int) != (b.length : Int)) rfl (fun hc => ?_) (fun hc => ?_)
  · replace h := h.1 hc
    refine wp_seq ?_
    refine R.list ?_
    refine S.val hf hs (v := .bool false) rfl rfl rfl (V.pure rfl) (fun a hf => ?_)
    refine R.nil ?_
    refine X.then_ ?_
    refine wp_ret ?_
    refine X.then_ret ?_
    exact L.ret hf (run_results1 Tryz.results19 (ResIs.tmp hf rfl)) ⟨false, rfl, h, hs.nil⟩
  · replace h := h.2 hc
    refine wp_skip ?_
    refine X.then_ ?_
    refine wp_seq ?_
    refine wp_seq ?_
    refine R.list ?_
    refine S.val hf hs (v := .slice a_A a_.length a_C) rfl rfl rfl (V.pure rfl) (fun a hf => ?_)
    refine S.val hf hs (v := .int .i64 (a_.length : Int)) rfl rfl rfl (V.len rfl rfl Tryz.runUnderlying36) (fun a hf => ?_)
    refine S.val hf hs (v := .int .i64 0) rfl rfl rfl (V.pure rfl) (fun a hf => ?_)
    refine R.nil ?_
    refine X.then_ ?_
    refine wp_block ?_
    have hlenk1 := hv_a_.len64
    refine C.range (fun (ll : List Job) a w => ∃ (k1 : Nat) , a_.drop k1 = ll ∧ k1 + ll.length = a_.length ∧ forIn' (fun k x (s : Unit) next => M_ref8_SameJobs_L1 b Q k x (next ())) (fun (s : Unit) => Q true) ll k1 () ∧ FrOk 42 [(13, .int .i64 (k1 : Int)), (0, .slice a_A a_.length a_C), (1, .slice bA b.length bC), (12, .int .i64 (a_.length : Int))] a ∧ Sat w0 none_ [] w) a_ ⟨0, rfl, Nat.zero_add _, h, ((((hf.nil.cons (hf.get 12 _ rfl)).cons (hf.get 1 _ rfl)).cons (hf.get 0 _ rfl)).cons (hf.get 13 _ rfl)), hs⟩ ?_
    clear h hf hs
    rintro llk1 a w ⟨k1, hlk1, hkk1, h, hf, hs⟩
    cases llk1 with
    | nil =>
      have hc := range_done hkk1
      replace h : Q true := h
      refine wp_seq ?_
      refine R.list ?_
      refine S.val hf hs (v := .bool false) rfl rfl rfl (V.cmp false rfl rfl rfl rfl hc) (fun a hf => ?_)
      refine R.nil ?_
      refine X.then_ ?_
      refine wp_seq ?_
      refine C.no hf rfl ?_
      refine wp_exit ?_
      refine X.then_exit ?_
      refine X.then_exit ?_
      refine X.blk_exit ?_
      refine X.then_ ?_
      refine wp_seq ?_
      refine R.list ?_
      refine S.val hf hs (v := .bool true) rfl rfl rfl (V.pure rfl) (fun a hf => ?_)
      refine R.nil ?_
      refine X.then_ ?_
      refine wp_ret ?_
      exact L.ret hf (run_results1 Tryz.results19 (ResIs.tmp hf rfl)) ⟨true, rfl, h, hs.nil⟩
    | cons xk1 llk1 =>
      have hltk1 := range_lt hkk1; have hc := range_go hkk1; have hxk1 := range_get hlk1
      obtain ⟨next1, hnext1⟩ : ∃ X : Prop, X = (forIn' (fun k x (s : Unit) next => M_ref8_SameJobs_L1 b Q k x (next ())) (fun (s : Unit) => Q true) llk1 (k1 + 1) ()) := ⟨_, rfl⟩
      replace h : M_ref8_SameJobs_L1 b Q k1 xk1  next1 := by rw [hnext1]; exact h
      unfold M_ref8_SameJobs_L1 at h
      refine wp_seq ?_
      refine R.list ?_
      refine S.val hf hs (v := .bool true) rfl rfl rfl (V.cmp true rfl rfl rfl rfl hc) (fun a hf => ?_)
      refine R.nil ?_
      refine X.then_ ?_
      refine wp_seq ?_
      refine C.yes hf rfl ?_
      refine wp_skip ?_
      refine X.then_ ?_
      refine wp_seq ?_
      refine wp_block ?_
      refine wp_seq ?_
      refine R.list ?_
      refine S.val hf hs (v := .int .i64 (k1 : Int)) rfl rfl rfl (V.pure rfl) (fun a hf => ?_)
      refine S.val hf hs (v := .int .i64 (k1 : Int)) rfl rfl rfl (V.pure rfl) (fun a hf => ?_)
      refine R.nil ?_
      refine X.then_ ?_
      refine wp_seq ?_
      refine C.cut (J := fun a w => ∃ (c1 : Bool), M_ref8_SameJobs_k2 Q next1 c1 ∧ FrOk 42 [(0, .slice a_A a_.length a_C), (1, .slice bA b.length bC), (12, .int .i64 (a_.length : Int)), (13, .int .i64 (k1 : Int)), (40, .bool c1)] a ∧ Sat w0 none_ [] w) ?_ ?_
      · rintro a w ⟨c1, h, hf, hs⟩
        unfold M_ref8_SameJobs_k2 at h
        refine C.cond hf (b := c1) rfl (fun hc => ?_) (fun hc => ?_)
        · replace h := h.1 hc
          refine wp_seq ?_
          refine R.list ?_
          refine S.val hf hs (v := .bool false) rfl rfl rfl (V.pure rfl) (fun a hf => ?_)
          refine R.nil ?_
          refine X.then_ ?_
          refine wp_ret ?_
          refine X.blk_ret ?_
          refine X.then_ret ?_
          refine X.then_ret ?_
          refine X.blk_ret ?_
          refine X.then_ret ?_
          exact L.ret hf (run_results1 Tryz.results19 (ResIs.tmp hf rfl)) ⟨false, rfl, h, hs.nil⟩
        · replace h := h.2 hc
          refine wp_skip ?_
          refine X.blk ?_
          refine X.then_ ?_
          refine R.list ?_
          refine S.val hf hs (v := .int .i64 ((k1 + 1 : Nat) : Int)) rfl rfl rfl (V.incr rfl rfl rfl hltk1 hlenk1) (fun a hf => ?_)
          refine S.val hf hs (v := .int .i64 ((k1 + 1 : Nat) : Int)) rfl rfl rfl (V.pure rfl) (fun a hf => ?_)
          refine R.nil ?_
          refine X.then_ ?_
          exact ⟨xk1, llk1, rfl, k1 + 1, range_drop hlk1, range_len hkk1, (by rw [hnext1] at h; exact h), ((((hf.nil.cons (hf.get 12 _ rfl)).cons (hf.get 1 _ rfl)).cons (hf.get 0 _ rfl)).cons (hf.get 13 _ rfl)), hs⟩
      · skip
        refine H.start (S := Sat w0 none_ []) mo ?_
        replace hs := hs.drew
        refine H.val hf hs (v := .slice a_A a_.length a_C) (i := 0) rfl rfl rfl rfl (by kernel_rfl) (by kernel_rfl) (by kernel_rfl) (V.pure rfl) (fun a hf => ?_)
        refine H.val hf hs (v := .int .i64 (k1 : Int)) (i := 1) rfl rfl rfl rfl (by kernel_rfl) (by kernel_rfl) (by kernel_rfl) (V.pure rfl) (fun a hf => ?_)
        obtain ⟨cs1, he1, hr1⟩ := hv_a_.at_ _ _ hxk1
        obtain ⟨u1A, u1C, rfl, hvu1⟩ := hr1
        refine H.val hf hs (v := elemPtr a_A (k1 * 2)) (i := 2) rfl rfl rfl rfl (by kernel_rfl) (by kernel_rfl) (by kernel_rfl) (V.index rfl rfl rfl Tryz.runUnderlying36 Tryz.sizeOf90 (hv_a_.some_ (lt_of_get hxk1)) (Int.natCast_nonneg _) (lt_of_get hxk1) rfl) (fun a hf => ?_)
        refine H.val hf hs (v := elemPtr a_A (k1 * 2)) (i := 3) rfl rfl rfl rfl (by kernel_rfl) (by kernel_rfl) (by kernel_rfl) (V.fieldEl rfl rfl (hv_a_.some_ (lt_of_get hxk1)) Tryz.runUnderlying90 rfl Tryz.sizeOf9 rfl rfl) (fun a hf => ?_)
        refine H.val hf hs (v := .string (ba xk1.Tool)) (i := 4) rfl rfl rfl rfl (by kernel_rfl) (by kernel_rfl) (by kernel_rfl) (V.loadEl (off := 0) (Ag.args _ _ _) he1 rfl rfl rfl Tryz.isAgg9 Tryz.sizeOf9 rfl rfl) (fun a hf => ?_)
        refine H.val hf hs (v := .slice bA b.length bC) (i := 5) rfl rfl rfl rfl (by kernel_rfl) (by kernel_rfl) (by kernel_rfl) (V.pure rfl) (fun a hf => ?_)
        refine H.val hf hs (v := .int .i64 (k1 : Int)) (i := 6) rfl rfl rfl rfl (by kernel_rfl) (by kernel_rfl) (by kernel_rfl) (V.pure rfl) (fun a hf => ?_)
        obtain ⟨h0x1, x1, hx1, h⟩ := h
        obtain ⟨cs2, he2, hr2⟩ := hv_b.at_ _ _ hx1
        obtain ⟨u2A, u2C, rfl, hvu2⟩ := hr2
        refine H.val hf hs (v := elemPtr bA (k1 * 2)) (i := 7) rfl rfl rfl rfl (by kernel_rfl) (by kernel_rfl) (by kernel_rfl) (V.index rfl rfl rfl Tryz.runUnderlying36 Tryz.sizeOf90 (hv_b.some_ (lt_of_get hx1)) (Int.natCast_nonneg _) (lt_of_get hx1) rfl) (fun a hf => ?_)
        refine H.val hf hs (v := elemPtr bA (k1 * 2)) (i := 8) rfl rfl rfl rfl (by kernel_rfl) (by kernel_rfl) (by kernel_rfl) (V.fieldEl rfl rfl (hv_b.some_ (lt_of_get hx1)) Tryz.runUnderlying90 rfl Tryz.sizeOf9 rfl rfl) (fun a hf => ?_)
        refine H.val hf hs (v := .string (ba x1.Tool)) (i := 9) rfl rfl rfl rfl (by kernel_rfl) (by kernel_rfl) (by kernel_rfl) (V.loadEl (off := 0) (Ag.args _ _ _) he2 rfl rfl rfl Tryz.isAgg9 Tryz.sizeOf9 rfl rfl) (fun a hf => ?_)
        refine H.val hf hs (v := .bool (!(xk1.Tool == x1.Tool))) (i := 10) rfl rfl rfl rfl (by kernel_rfl) (by kernel_rfl) (by kernel_rfl) (V.strCmp (!(xk1.Tool == x1.Tool)) rfl rfl rfl rfl) (fun a hf => ?_)
        refine H.split hf hs (b := !(xk1.Tool == x1.Tool)) (i := 11) rfl rfl rfl rfl (by kernel_rfl) (by kernel_rfl) (by kernel_rfl) (V.pure rfl) (fun hc a hf => ?_) (fun hc a hf => ?_)
        · replace h := h.1 hc
          refine H.skip hf hs (i := 12) rfl rfl rfl rfl (by kernel_rfl) (by kernel_rfl) (by kernel_rfl) (fun a hf => ?_)
          refine H.skip hf hs (i := 13) rfl rfl rfl rfl (by kernel_rfl) (by kernel_rfl) (by kernel_rfl) (fun a hf => ?_)
          refine H.skip hf hs (i := 14) rfl rfl rfl rfl (by kernel_rfl) (by kernel_rfl) (by kernel_rfl) (fun a hf => ?_)
          refine H.skip hf hs (i := 15) rfl rfl rfl rfl (by kernel_rfl) (by kernel_rfl) (by kernel_rfl) (fun a hf => ?_)
          refine H.skip hf hs (i := 16) rfl rfl rfl rfl (by kernel_rfl) (by kernel_rfl) (by kernel_rfl) (fun a hf => ?_)
          refine H.skip hf hs (i := 17) rfl rfl rfl rfl (by kernel_rfl) (by kernel_rfl) (by kernel_rfl) (fun a hf => ?_)
          refine H.skip hf hs (i := 18) rfl rfl rfl rfl (by kernel_rfl) (by kernel_rfl) (by kernel_rfl) (fun a hf => ?_)
          refine H.skip hf hs (i := 19) rfl rfl rfl rfl (by kernel_rfl) (by kernel_rfl) (by kernel_rfl) (fun a hf => ?_)
          refine H.skip hf hs (i := 20) rfl rfl rfl rfl (by kernel_rfl) (by kernel_rfl) (by kernel_rfl) (fun a hf => ?_)
          refine H.skip hf hs (i := 21) rfl rfl rfl rfl (by kernel_rfl) (by kernel_rfl) (by kernel_rfl) (fun a hf => ?_)
          refine H.one (i := 22) rfl (by kernel_rfl) ?_
          refine S.skip hf rfl rfl rfl (fun a hf => ?_)
          refine R.nil ?_
          refine X.then_ ?_
          refine ⟨hs, ?_⟩
          refine H.skip hf hs (i := 23) rfl rfl rfl rfl (by kernel_rfl) (by kernel_rfl) (by kernel_rfl) (fun a hf => ?_)
          refine H.val hf hs (v := .bool true) (i := 24) rfl rfl rfl rfl (by kernel_rfl) (by kernel_rfl) (by kernel_rfl) (V.pure rfl) (fun a hf => ?_)
          refine H.done (by kernel_rfl) ?_
          refine X.then_ ?_
          exact ⟨true, h, (((((hf.nil.cons (hf.get 40 _ rfl)).cons (hf.get 13 _ rfl)).cons (hf.get 12 _ rfl)).cons (hf.get 1 _ rfl)).cons (hf.get 0 _ rfl)), hs⟩
        · replace h := h.2 hc
          refine H.val hf hs (v := .slice a_A a_.length a_C) (i := 12) rfl rfl rfl rfl (by kernel_rfl) (by kernel_rfl) (by kernel_rfl) (V.pure rfl) (fun a hf => ?_)
          refine H.val hf hs (v := .int .i64 (k1 : Int)) (i := 13) rfl rfl rfl rfl (by kernel_rfl) (by kernel_rfl) (by kernel_rfl) (V.pure rfl) (fun a hf => ?_)
          refine H.val hf hs (v := elemPtr a_A (k1 * 2)) (i := 14) rfl rfl rfl rfl (by kernel_rfl) (by kernel_rfl) (by kernel_rfl) (V.index rfl rfl rfl Tryz.runUnderlying36 Tryz.sizeOf90 (hv_a_.some_ (lt_of_get hxk1)) (Int.natCast_nonneg _) (lt_of_get hxk1) rfl) (fun a hf => ?_)
          refine H.val hf hs (v := elemPtr a_A (k1 * 2 + 1)) (i := 15) rfl rfl rfl rfl (by kernel_rfl) (by kernel_rfl) (by kernel_rfl) (V.fieldEl rfl rfl (hv_a_.some_ (lt_of_get hxk1)) Tryz.runUnderlying90 rfl Tryz.sizeOf88 rfl rfl) (fun a hf => ?_)
          refine H.val hf hs (v := .slice u1A xk1.Holes.length u1C) (i := 16) rfl rfl rfl rfl (by kernel_rfl) (by kernel_rfl) (by kernel_rfl) (V.loadEl (off := 1) (Ag.args _ _ _) he1 rfl rfl rfl Tryz.isAgg88 Tryz.sizeOf88 rfl rfl) (fun a hf => ?_)
          refine H.val hf hs (v := .slice bA b.length bC) (i := 17) rfl rfl rfl rfl (by kernel_rfl) (by kernel_rfl) (by kernel_rfl) (V.pure rfl) (fun a hf => ?_)
          refine H.val hf hs (v := .int .i64 (k1 : Int)) (i := 18) rfl rfl rfl rfl (by kernel_rfl) (by kernel_rfl) (by kernel_rfl) (V.pure rfl) (fun a hf => ?_)
          refine H.val hf hs (v := elemPtr bA (k1 * 2)) (i := 19) rfl rfl rfl rfl (by kernel_rfl) (by kernel_rfl) (by kernel_rfl) (V.index rfl rfl rfl Tryz.runUnderlying36 Tryz.sizeOf90 (hv_b.some_ (lt_of_get hx1)) (Int.natCast_nonneg _) (lt_of_get hx1) rfl) (fun a hf => ?_)
          refine H.val hf hs (v := elemPtr bA (k1 * 2 + 1)) (i := 20) rfl rfl rfl rfl (by kernel_rfl) (by kernel_rfl) (by kernel_rfl) (V.fieldEl rfl rfl (hv_b.some_ (lt_of_get hx1)) Tryz.runUnderlying90 rfl Tryz.sizeOf88 rfl rfl) (fun a hf => ?_)
          refine H.val hf hs (v := .slice u2A x1.Holes.length u2C) (i := 21) rfl rfl rfl rfl (by kernel_rfl) (by kernel_rfl) (by kernel_rfl) (V.loadEl (off := 1) (Ag.args _ _ _) he2 rfl rfl rfl Tryz.isAgg88 Tryz.sizeOf88 rfl rfl) (fun a hf => ?_)
          refine H.one (i := 22) rfl (by kernel_rfl) ?_
          refine S.call hf rfl rfl rfl (call_fn (vs := [.slice u1A xk1.Holes.length u1C, .slice u2A x1.Holes.length u2C]) rfl rfl rfl Tryz.call52) (R_equal_hole xk1.Holes x1.Holes _ u1A u1C ((Ag.args _ _ _).view hvu1 hs) u2A u2C ((Ag.args _ _ _).view hvu2 hs) _ h) (fun v a w' hf hr => ?_)
          obtain ⟨y1, rfl, h2, hs2⟩ := hr
          replace h := h2; replace hs := hs.call hs2; clear h2 hs2
          refine R.nil ?_
          refine X.then_ ?_
          refine ⟨hs, ?_⟩
          refine H.val hf hs (v := .bool (!y1)) (i := 23) rfl rfl rfl rfl (by kernel_rfl) (by kernel_rfl) (by kernel_rfl) (V.pure rfl) (fun a hf => ?_)
          refine H.val hf hs (v := .bool (!y1)) (i := 24) rfl rfl rfl rfl (by kernel_rfl) (by kernel_rfl) (by kernel_rfl) (V.pure rfl) (fun a hf => ?_)
          refine H.done (by kernel_rfl) ?_
          refine X.then_ ?_
          exact ⟨(!y1), h, (((((hf.nil.cons (hf.get 40 _ rfl)).cons (hf.get 13 _ rfl)).cons (hf.get 12 _ rfl)).cons (hf.get 1 _ rfl)).cons (hf.get 0 _ rfl)), hs⟩

set_option linter.unusedVariables false
def M_law_DrillReads (text : Str) (Q : Bool → Prop) : Prop :=
  M_drill_Read text fun y1 y2 y3 y4 => M_ref8_Read text fun y5 y6 y7 y8 => cnd (y4 == y8) (cnd (y3 == y7) (M_equal_bit y1 y5 fun y9 => cnd y9 (M_ref8_SameJobs y2 y6 fun y10 => cnd y10 (M_awake  fun y11 => Q y11) (Q false)) (Q false)) (Q false)) (Q false)
set_option maxHeartbeats 1000000 in
theorem R_law_DrillReads (text : Str) (w0 : World)  (Q : Bool → Prop) (h : M_law_DrillReads text Q) :
    Ret Tryz.prog 4 #[.string (ba text)] w0 fun v w' => ∃ (r0 : Bool), v = .bool r0 ∧ Q r0 ∧ Sat w0 none_ [] w' := by
  refine fn_enter Tryz.func4 rfl Tryz.ntmps4 rfl (fs := [(0, .string (ba text))]) rfl (fun a hf => ?_)
  have hs := Sat.start w0 none_
  unfold M_law_DrillReads at h
  refine wp_seq ?_
  refine R.list ?_
  refine S.val hf hs (v := .bool false) rfl rfl rfl (V.pure rfl) (fun a hf => ?_)
  refine R.nil ?_
  refine X.then_ ?_
  refine wp_seq ?_
  refine R.list ?_
  refine S.val hf hs (v := .string (ba text)) rfl rfl rfl (V.pure rfl) (fun a hf => ?_)
  refine S.call hf rfl rfl rfl (call_fn (vs := [.string (ba text)]) rfl rfl rfl Tryz.call16) (R_drill_Read text _  _ h) (fun v a w' hf hr => ?_)
  obtain ⟨y1, y1A, y1C, y2, y2A, y2C, y2as, y3, y4, rfl, h2, hs2⟩ := hr
  replace h := h2; replace hs := hs.call hs2; clear h2 hs2
  refine S.val hf hs (v := .tuple #[.slice y1A y1.length y1C, .slice y2A y2.length y2C, .int .i64 y3, .int .i64 y4]) rfl rfl rfl (V.pure rfl) (fun a hf => ?_)
  refine S.val hf hs (v := .slice y1A y1.length y1C) rfl rfl rfl (V.pure rfl) (fun a hf => ?_)
  refine S.val hf hs (v := .slice y2A y2.length y2C) rfl rfl rfl (V.pure rfl) (fun a hf => ?_)
  refine S.val hf hs (v := .int .i64 y3) rfl rfl rfl (V.pure rfl) (fun a hf => ?_)
  refine S.val hf hs (v := .int .i64 y4) rfl rfl rfl (V.pure rfl) (fun a hf => ?_)
  refine S.val hf hs (v := .slice y1A y1.length y1C) rfl rfl rfl (V.pure rfl) (fun a hf => ?_)
  refine S.val hf hs (v := .slice y2A y2.length y2C) rfl rfl rfl (V.pure rfl) (fun a hf => ?_)
  refine S.val hf hs (v := .int .i64 y3) rfl rfl rfl (V.pure rfl) (fun a hf => ?_)
  refine S.val hf hs (v := .int .i64 y4) rfl rfl rfl (V.pure rfl) (fun a hf => ?_)
  refine R.nil ?_
  refine X.then_ ?_
  refine wp_seq ?_
  refine R.list ?_
  refine S.val hf hs (v := .string (ba text)) rfl rfl rfl (V.pure rfl) (fun a hf => ?_)
  refine S.call hf rfl rfl rfl (call_fn (vs := [.string (ba text)]) rfl rfl rfl Tryz.call17) (R_ref8_Read text _  _ h) (fun v a w' hf hr => ?_)
  obtain ⟨y5, y5A, y5C, y6, y6A, y6C, y6as, y7, y8, rfl, h2, hs2⟩ := hr
  replace h := h2; replace hs := hs.call hs2; clear h2 hs2
  refine S.val hf hs (v := .tuple #[.slice y5A y5.length y5C, .slice y6A y6.length y6C, .int .i64 y7, .int .i64 y8]) rfl rfl rfl (V.pure rfl) (fun a hf => ?_)
  refine S.val hf hs (v := .slice y5A y5.length y5C) rfl rfl rfl (V.pure rfl) (fun a hf => ?_)
  refine S.val hf hs (v := .slice y6A y6.length y6C) rfl rfl rfl (V.pure rfl) (fun a hf => ?_)
  refine S.val hf hs (v := .int .i64 y7) rfl rfl rfl (V.pure rfl) (fun a hf => ?_)
  refine S.val hf hs (v := .int .i64 y8) rfl rfl rfl (V.pure rfl) (fun a hf => ?_)
  refine S.val hf hs (v := .slice y5A y5.length y5C) rfl rfl rfl (V.pure rfl) (fun a hf => ?_)
  refine S.val hf hs (v := .slice y6A y6.length y6C) rfl rfl rfl (V.pure rfl) (fun a hf => ?_)
  refine S.val hf hs (v := .int .i64 y7) rfl rfl rfl (V.pure rfl) (fun a hf => ?_)
  refine S.val hf hs (v := .int .i64 y8) rfl rfl rfl (V.pure rfl) (fun a hf => ?_)
  refine R.nil ?_
  refine X.then_ ?_
  refine wp_seq ?_
  refine R.list ?_
  refine S.val hf hs (v := .int .i64 y4) rfl rfl rfl (V.pure rfl) (fun a hf => ?_)
  refine S.val hf hs (v := .int .i64 y8) rfl rfl rfl (V.pure rfl) (fun a hf => ?_)
  refine S.val hf hs (v := .bool (y4 == y8)) rfl rfl rfl (V.pure rfl) (fun a hf => ?_)
  refine S.split hf hs (b := y4 == y8) rfl rfl rfl (V.pure rfl) (fun hc a hf => ?_) (fun hc a hf => ?_)
  · replace h := h.1 hc
    refine S.val hf hs (v := .int .i64 y3) rfl rfl rfl (V.pure rfl) (fun a hf => ?_)
    refine S.val hf hs (v := .int .i64 y7) rfl rfl rfl (V.pure rfl) (fun a hf => ?_)
    refine S.val hf hs (v := .bool (y3 == y7)) rfl rfl rfl (V.pure rfl) (fun a hf => ?_)
    refine S.val hf hs (v := .bool (y3 == y7)) rfl rfl rfl (V.pure rfl) (fun a hf => ?_)
    refine S.split hf hs (b := y3 == y7) rfl rfl rfl (V.pure rfl) (fun hc a hf => ?_) (fun hc a hf => ?_)
    · replace h := h.1 hc
      refine S.val hf hs (v := .slice y1A y1.length y1C) rfl rfl rfl (V.pure rfl) (fun a hf => ?_)
      refine S.val hf hs (v := .slice y5A y5.length y5C) rfl rfl rfl (V.pure rfl) (fun a hf => ?_)
      refine S.call hf rfl rfl rfl (call_fn (vs := [.slice y1A y1.length y1C, .slice y5A y5.length y5C]) rfl rfl rfl Tryz.call18) (R_equal_bit y1 y5 _ y1A y1C (hs.ownView 2 rfl) y5A y5C (hs.ownView 0 rfl) _ h) (fun v a w' hf hr => ?_)
      obtain ⟨y9, rfl, h2, hs2⟩ := hr
      replace h := h2; replace hs := hs.call hs2; clear h2 hs2
      refine S.val hf hs (v := .bool y9) rfl rfl rfl (V.pure rfl) (fun a hf => ?_)
      refine S.split hf hs (b := y9) rfl rfl rfl (V.pure rfl) (fun hc a hf => ?_) (fun hc a hf => ?_)
      · replace h := h.1 hc
        refine S.val hf hs (v := .slice y2A y2.length y2C) rfl rfl rfl (V.pure rfl) (fun a hf => ?_)
        refine S.val hf hs (v := .slice y6A y6.length y6C) rfl rfl rfl (V.pure rfl) (fun a hf => ?_)
        refine S.call hf rfl rfl rfl (call_fn (vs := [.slice y2A y2.length y2C, .slice y6A y6.length y6C]) rfl rfl rfl Tryz.call19) (R_ref8_SameJobs y2 y6 _ y2A y2C (hs.rowsView 3 rfl) y6A y6C (hs.rowsView 1 rfl) _ h) (fun v a w' hf hr => ?_)
        obtain ⟨y10, rfl, h2, hs2⟩ := hr
        replace h := h2; replace hs := hs.call hs2; clear h2 hs2
        refine S.val hf hs (v := .bool y10) rfl rfl rfl (V.pure rfl) (fun a hf => ?_)
        refine S.split hf hs (b := y10) rfl rfl rfl (V.pure rfl) (fun hc a hf => ?_) (fun hc a hf => ?_)
        · replace h := h.1 hc
          refine S.call hf rfl rfl rfl (call_fn (vs := []) rfl rfl rfl Tryz.call20) (R_awake  _  _ h) (fun v a w' hf hr => ?_)
          obtain ⟨y11, rfl, h2, hs2⟩ := hr
          replace h := h2; replace hs := hs.call hs2; clear h2 hs2
          refine S.val hf hs (v := .bool y11) rfl rfl rfl (V.pure rfl) (fun a hf => ?_)
          refine S.val hf hs (v := .bool y11) rfl rfl rfl (V.pure rfl) (fun a hf => ?_)
          refine R.nil ?_
          refine X.then_ ?_
          refine wp_ret ?_
          exact L.ret hf (run_results1 Tryz.results4 (ResIs.tmp hf rfl)) ⟨y11, rfl, h, hs.nil⟩
        · replace h := h.2 hc
          refine S.skip hf rfl rfl rfl (fun a hf => ?_)
          refine S.val hf hs (v := .bool false) rfl rfl rfl (V.pure rfl) (fun a hf => ?_)
          refine S.val hf hs (v := .bool false) rfl rfl rfl (V.pure rfl) (fun a hf => ?_)
          refine R.nil ?_
          refine X.then_ ?_
          refine wp_ret ?_
          exact L.ret hf (run_results1 Tryz.results4 (ResIs.tmp hf rfl)) ⟨false, rfl, h, hs.nil⟩
      · replace h := h.2 hc
        refine S.skip hf rfl rfl rfl (fun a hf => ?_)
        refine S.skip hf rfl rfl rfl (fun a hf => ?_)
        refine S.skip hf rfl rfl rfl (fun a hf => ?_)
        refine S.val hf hs (v := .bool false) rfl rfl rfl (V.pure rfl) (fun a hf => ?_)
        refine S.val hf hs (v := .bool false) rfl rfl rfl (V.pure rfl) (fun a hf => ?_)
        refine S.skip hf rfl rfl rfl (fun a hf => ?_)
        refine S.val hf hs (v := .bool false) rfl rfl rfl (V.pure rfl) (fun a hf => ?_)
        refine S.val hf hs (v := .bool false) rfl rfl rfl (V.pure rfl) (fun a hf => ?_)
        refine R.nil ?_
        refine X.then_ ?_
        refine wp_ret ?_
        exact L.ret hf (run_results1 Tryz.results4 (ResIs.tmp hf rfl)) ⟨false, rfl, h, hs.nil⟩
    · replace h := h.2 hc
      refine S.skip hf rfl rfl rfl (fun a hf => ?_)
      refine S.skip hf rfl rfl rfl (fun a hf => ?_)
      refine S.skip hf rfl rfl rfl (fun a hf => ?_)
      refine S.val hf hs (v := .bool false) rfl rfl rfl (V.pure rfl) (fun a hf => ?_)
      refine S.val hf hs (v := .bool false) rfl rfl rfl (V.pure rfl) (fun a hf => ?_)
      refine S.skip hf rfl rfl rfl (fun a hf => ?_)
      refine S.skip hf rfl rfl rfl (fun a hf => ?_)
      refine S.skip hf rfl rfl rfl (fun a hf => ?_)
      refine S.val hf hs (v := .bool false) rfl rfl rfl (V.pure rfl) (fun a hf => ?_)
      refine S.val hf hs (v := .bool false) rfl rfl rfl (V.pure rfl) (fun a hf => ?_)
      refine S.skip hf rfl rfl rfl (fun a hf => ?_)
      refine S.val hf hs (v := .bool false) rfl rfl rfl (V.pure rfl) (fun a hf => ?_)
      refine S.val hf hs (v := .bool false) rfl rfl rfl (V.pure rfl) (fun a hf => ?_)
      refine R.nil ?_
      refine X.then_ ?_
      refine wp_ret ?_
      exact L.ret hf (run_results1 Tryz.results4 (ResIs.tmp hf rfl)) ⟨false, rfl, h, hs.nil⟩
  · replace h := h.2 hc
    refine S.skip hf rfl rfl rfl (fun a hf => ?_)
    refine S.skip hf rfl rfl rfl (fun a hf => ?_)
    refine S.skip hf rfl rfl rfl (fun a hf => ?_)
    refine S.val hf hs (v := .bool false) rfl rfl rfl (V.pure rfl) (fun a hf => ?_)
    refine S.val hf hs (v := .bool false) rfl rfl rfl (V.pure rfl) (fun a hf => ?_)
    refine S.skip hf rfl rfl rfl (fun a hf => ?_)
    refine S.skip hf rfl rfl rfl (fun a hf => ?_)
    refine S.skip hf rfl rfl rfl (fun a hf => ?_)
    refine S.val hf hs (v := .bool false) rfl rfl rfl (V.pure rfl) (fun a hf => ?_)
    refine S.val hf hs (v := .bool false) rfl rfl rfl (V.pure rfl) (fun a hf => ?_)
    refine S.skip hf rfl rfl rfl (fun a hf => ?_)
    refine S.skip hf rfl rfl rfl (fun a hf => ?_)
    refine S.skip hf rfl rfl rfl (fun a hf => ?_)
    refine S.val hf hs (v := .bool false) rfl rfl rfl (V.pure rfl) (fun a hf => ?_)
    refine S.val hf hs (v := .bool false) rfl rfl rfl (V.pure rfl) (fun a hf => ?_)
    refine S.skip hf rfl rfl rfl (fun a hf => ?_)
    refine S.val hf hs (v := .bool false) rfl rfl rfl (V.pure rfl) (fun a hf => ?_)
    refine S.val hf hs (v := .bool false) rfl rfl rfl (V.pure rfl) (fun a hf => ?_)
    refine R.nil ?_
    refine X.then_ ?_
    refine wp_ret ?_
    exact L.ret hf (run_results1 Tryz.results4 (ResIs.tmp hf rfl)) ⟨false, rfl, h, hs.nil⟩


end Go.Proofs.YtdnilnmdbgcmoaaGreatDoor

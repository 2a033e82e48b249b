/- Reading stacks: the walks. -/
import Derived.Test.YtdnilnmdbgcmoaaGreatDoorTextB
import Derived.Test.YtdnilnmdbgcmoaaGreatDoorTextC
namespace Go.Proofs.YtdnilnmdbgcmoaaGreatDoor
open Go Go.RowKit Go.Proofs Go.Shelf Go.Lib
set_option linter.unusedVariables false

/-- the closure of isRow: a rune below 33 or above 126 -/
theorem pred_stack_ContainsRow (w : World) : PredAtRunes Tryz.prog 141 #[] (fun r => decide (r < 33) || decide (126 < r)) w := fun W r _ _ => by
  unfold FnGives
  by_cases h1 : r < 33 <;> by_cases h2 : 126 < r
  all_goals
    have z1 : (r : Int) < 33 ↔ r < 33 := by omega
    have z2 : (126 : Int) < r ↔ 126 < r := by omega
    go_enter Tryz.func141, Tryz.ntmps141
    go_wp2
    all_goals first | (exfalso; omega) | (go_ret; exact ⟨by simp [h1, h2], 0, rfl⟩)
/-- strings.ContainsFunc at isRow's closure: the kit's shelf -/
def M_stack_ContainsRow (s : Str) (Q : Bool → Prop) : Prop := Q (decide (0 ≤ Lib.idxFunc (fun r => decide (r < 33) || decide (126 < r)) true (ba s)))
theorem R_stack_ContainsRow (s : Str) (w0 : World) (Q : Bool → Prop) (h : M_stack_ContainsRow s Q) :
    Ret Tryz.prog 99 #[.string (ba s), .func (.func 141) #[] #[]] w0 fun v w' => ∃ (r0 : Bool), v = .bool r0 ∧ Q r0 ∧ Sat w0 none_ [] w' := by
  have key := Any.strings_ContainsFunc_grows (P := Tryz.prog) Tryz.lays17 141 #[] (enters_of Tryz.func141 (by kernel_rfl) rfl) _ (ba s) w0 (pred_stack_ContainsRow w0).grows
  exact Calls.mono key fun e w' ⟨he, hb⟩ => ⟨_, he, _, rfl, h, ⟨Keeps.of_below hb none_ (fun e => absurd e (by decide)), trivial⟩⟩

set_option linter.unusedVariables false
def M_stack_isRow (s_ : Str) (Q : Bool → Prop) : Prop :=
  cnd (!(s_ == [])) (M_stack_ContainsRow s_ fun y1 => Q (!y1)) (Q false)
set_option maxHeartbeats 1000000 in
theorem R_stack_isRow (s_ : Str) (w0 : World)  (Q : Bool → Prop) (h : M_stack_isRow s_ Q) :
    Ret Tryz.prog 82 #[.string (ba s_)] w0 fun v w' => ∃ (r0 : Bool), v = .bool r0 ∧ Q r0 ∧ Sat w0 none_ [] w' := by
  refine fn_enter Tryz.func82 rfl Tryz.ntmps82 rfl (fs := [(0, .string (ba s_))]) rfl (fun a hf => ?_)
  have hs := Sat.start w0 none_
  unfold M_stack_isRow at h
  refine wp_seq ?_
  refine R.list ?_
  refine S.val hf hs (v := .bool false) rfl rfl rfl (V.pure rfl) (fun a hf => ?_)
  refine R.nil ?_
  refine X.then_ ?_
  refine wp_seq ?_
  refine R.list ?_
  refine S.val hf hs (v := .string (ba s_)) rfl rfl rfl (V.pure rfl) (fun a hf => ?_)
  refine S.val hf hs (v := .bool (!(s_ == []))) rfl rfl rfl (V.strCmp (!(s_ == [])) rfl rfl rfl rfl) (fun a hf => ?_)
  refine S.split hf hs (b := !(s_ == [])) rfl rfl rfl (V.pure rfl) (fun hc a hf => ?_) (fun hc a hf => ?_)
  · replace h := h.1 hc
    refine S.val hf hs (v := .string (ba s_)) rfl rfl rfl (V.pure rfl) (fun a hf => ?_)
    refine S.call hf rfl rfl rfl (call_fn (vs := [.string (ba s_), .func (.func 141) #[] #[]]) rfl rfl rfl Tryz.call99) (R_stack_ContainsRow s_ _  _ h) (fun v a w' hf hr => ?_)
    obtain ⟨y1, rfl, h2, hs2⟩ := hr
    replace h := h2; replace hs := hs.call hs2; clear h2 hs2
    refine S.val hf hs (v := .bool (!y1)) rfl rfl rfl (V.pure rfl) (fun a hf => ?_)
    refine S.val hf hs (v := .bool (!y1)) rfl rfl rfl (V.pure rfl) (fun a hf => ?_)
    refine S.val hf hs (v := .bool (!y1)) rfl rfl rfl (V.pure rfl) (fun a hf => ?_)
    refine R.nil ?_
    refine X.then_ ?_
    refine wp_ret ?_
    exact L.ret hf (run_results1 Tryz.results82 (ResIs.tmp hf rfl)) ⟨(!y1), rfl, h, hs.nil⟩
  · replace h := h.2 hc
    refine S.skip hf rfl rfl rfl (fun a hf => ?_)
    refine S.skip hf rfl rfl rfl (fun a hf => ?_)
    refine S.skip hf rfl rfl rfl (fun a hf => ?_)
    refine S.val hf hs (v := .bool false) rfl rfl rfl (V.pure rfl) (fun a hf => ?_)
    refine S.val hf hs (v := .bool false) rfl rfl rfl (V.pure rfl) (fun a hf => ?_)
    refine R.nil ?_
    refine X.then_ ?_
    refine wp_ret ?_
    exact L.ret hf (run_results1 Tryz.results82 (ResIs.tmp hf rfl)) ⟨false, rfl, h, hs.nil⟩

set_option linter.unusedVariables false
def M_stack_notRow (x_ : Str) (Q : Bool → Prop) : Prop :=
  M_stack_isRow x_ fun y1 => Q (!y1)
set_option maxHeartbeats 1000000 in
theorem R_stack_notRow (x_ : Str) (w0 : World)  (Q : Bool → Prop) (h : M_stack_notRow x_ Q) :
    Ret Tryz.prog 81 #[.string (ba x_)] w0 fun v w' => ∃ (r0 : Bool), v = .bool r0 ∧ Q r0 ∧ Sat w0 none_ [] w' := by
  refine fn_enter Tryz.func81 rfl Tryz.ntmps81 rfl (fs := [(0, .string (ba x_))]) rfl (fun a hf => ?_)
  have hs := Sat.start w0 none_
  unfold M_stack_notRow at h
  refine wp_seq ?_
  refine R.list ?_
  refine S.val hf hs (v := .bool false) rfl rfl rfl (V.pure rfl) (fun a hf => ?_)
  refine R.nil ?_
  refine X.then_ ?_
  refine wp_seq ?_
  refine R.list ?_
  refine S.val hf hs (v := .string (ba x_)) rfl rfl rfl (V.pure rfl) (fun a hf => ?_)
  refine S.call hf rfl rfl rfl (call_fn (vs := [.string (ba x_)]) rfl rfl rfl Tryz.call82) (R_stack_isRow x_ _  _ h) (fun v a w' hf hr => ?_)
  obtain ⟨y1, rfl, h2, hs2⟩ := hr
  replace h := h2; replace hs := hs.call hs2; clear h2 hs2
  refine S.val hf hs (v := .bool (!y1)) rfl rfl rfl (V.pure rfl) (fun a hf => ?_)
  refine S.val hf hs (v := .bool (!y1)) rfl rfl rfl (V.pure rfl) (fun a hf => ?_)
  refine R.nil ?_
  refine X.then_ ?_
  refine wp_ret ?_
  exact L.ret hf (run_results1 Tryz.results81 (ResIs.tmp hf rfl)) ⟨(!y1), rfl, h, hs.nil⟩

set_option linter.unusedVariables false
def M_indexfunc_stack_L1 (Q : Int → Prop) (k1 : Nat) (xk1 : Str)  (next1 : Prop) : Prop :=
  M_stack_notRow xk1 fun y1 => cnd y1 (Q (k1 : Int)) (next1)
def M_indexfunc_stack (s_ : (List Str)) (Q : Int → Prop) : Prop :=
  forIn' (fun k x (s : Unit) next => M_indexfunc_stack_L1 Q k x (next ())) (fun (s : Unit) => Q (-1)) s_ 0 ()
set_option maxHeartbeats 1000000 in
theorem R_indexfunc_stack (s_ : (List Str)) (w0 : World) (s_A : Option Addr) (s_C : Nat) (hv_s_ : View w0 (old w0 none_) s_A s_C s_) (Q : Int → Prop) (h : M_indexfunc_stack s_ Q) :
    Ret Tryz.prog 140 #[.slice s_A s_.length s_C, .func (.func 81) #[] #[]] w0 fun v w' => ∃ (r0 : Int), v = .int .i64 r0 ∧ Q r0 ∧ Sat w0 none_ [] w' := by
  refine fn_enter Tryz.func140 rfl Tryz.ntmps140 rfl (fs := [(0, .slice s_A s_.length s_C), (1, .func (.func 81) #[] #[])]) rfl (fun a hf => ?_)
  have hs := Sat.start w0 none_
  unfold M_indexfunc_stack at h
  refine wp_seq ?_
  refine R.list ?_
  refine S.val hf hs (v := .int .i64 0) rfl rfl rfl (V.pure rfl) (fun a hf => ?_)
  refine R.nil ?_
  refine X.then_ ?_
  refine wp_seq ?_
  refine wp_seq ?_
  refine R.list ?_
  refine S.val hf hs (v := .slice s_A s_.length s_C) rfl rfl rfl (V.pure rfl) (fun a hf => ?_)
  refine S.val hf hs (v := .int .i64 (s_.length : Int)) rfl rfl rfl (V.len rfl rfl Tryz.runUnderlying74) (fun a hf => ?_)
  refine S.val hf hs (v := .int .i64 0) rfl rfl rfl (V.pure rfl) (fun a hf => ?_)
  refine R.nil ?_
  refine X.then_ ?_
  refine wp_block ?_
  have hlenk1 := hv_s_.len64
  refine C.range (fun (ll : List Str) a w => ∃ (k1 : Nat) , s_.drop k1 = ll ∧ k1 + ll.length = s_.length ∧ forIn' (fun k x (s : Unit) next => M_indexfunc_stack_L1 Q k x (next ())) (fun (s : Unit) => Q (-1)) ll k1 () ∧ FrOk 19 [(8, .int .i64 (k1 : Int)), (0, .slice s_A s_.length s_C), (1, .func (.func 81) #[] #[]), (7, .int .i64 (s_.length : Int))] a ∧ Sat w0 none_ [] w) s_ ⟨0, rfl, Nat.zero_add _, h, ((((hf.nil.cons (hf.get 7 _ rfl)).cons (hf.get 1 _ rfl)).cons (hf.get 0 _ rfl)).cons (hf.get 8 _ rfl)), hs⟩ ?_
  clear h hf hs
  rintro llk1 a w ⟨k1, hlk1, hkk1, h, hf, hs⟩
  cases llk1 with
  | nil =>
    have hc := range_done hkk1
    replace h : Q (-1) := h
    refine wp_seq ?_
    refine R.list ?_
    refine S.val hf hs (v := .bool false) rfl rfl rfl (V.cmp false rfl rfl rfl rfl hc) (fun a hf => ?_)
    refine R.nil ?_
    refine X.then_ ?_
    refine wp_seq ?_
    refine C.no hf rfl ?_
    refine wp_exit ?_
    refine X.then_exit ?_
    refine X.then_exit ?_
    refine X.blk_exit ?_
    refine X.then_ ?_
    refine wp_seq ?_
    refine R.list ?_
    refine S.val hf hs (v := .int .i64 (-1)) rfl rfl rfl (V.pure rfl) (fun a hf => ?_)
    refine R.nil ?_
    refine X.then_ ?_
    refine wp_ret ?_
    exact L.ret hf (run_results1 Tryz.results140 (ResIs.tmp hf rfl)) ⟨(-1), rfl, h, hs.nil⟩
  | cons xk1 llk1 =>
    have hltk1 := range_lt hkk1; have hc := range_go hkk1; have hxk1 := range_get hlk1
    obtain ⟨next1, hnext1⟩ : ∃ X : Prop, X = (forIn' (fun k x (s : Unit) next => M_indexfunc_stack_L1 Q k x (next ())) (fun (s : Unit) => Q (-1)) llk1 (k1 + 1) ()) := ⟨_, rfl⟩
    replace h : M_indexfunc_stack_L1 Q k1 xk1  next1 := by rw [hnext1]; exact h
    unfold M_indexfunc_stack_L1 at h
    refine wp_seq ?_
    refine R.list ?_
    refine S.val hf hs (v := .bool true) rfl rfl rfl (V.cmp true rfl rfl rfl rfl hc) (fun a hf => ?_)
    refine R.nil ?_
    refine X.then_ ?_
    refine wp_seq ?_
    refine C.yes hf rfl ?_
    refine wp_skip ?_
    refine X.then_ ?_
    refine wp_seq ?_
    refine wp_block ?_
    refine wp_seq ?_
    refine R.list ?_
    refine S.val hf hs (v := .int .i64 (k1 : Int)) rfl rfl rfl (V.pure rfl) (fun a hf => ?_)
    refine S.val hf hs (v := .int .i64 (k1 : Int)) rfl rfl rfl (V.pure rfl) (fun a hf => ?_)
    refine R.nil ?_
    refine X.then_ ?_
    refine wp_seq ?_
    refine R.list ?_
    refine S.val hf hs (v := .func (.func 81) #[] #[]) rfl rfl rfl (V.pure rfl) (fun a hf => ?_)
    refine S.val hf hs (v := .slice s_A s_.length s_C) rfl rfl rfl (V.pure rfl) (fun a hf => ?_)
    refine S.val hf hs (v := .int .i64 (k1 : Int)) rfl rfl rfl (V.pure rfl) (fun a hf => ?_)
    refine S.val hf hs (v := elemPtr s_A (k1 * 1)) rfl rfl rfl (V.index rfl rfl rfl Tryz.runUnderlying74 Tryz.sizeOf9 (hv_s_.some_ (lt_of_get hxk1)) (Int.natCast_nonneg _) (lt_of_get hxk1) rfl) (fun a hf => ?_)
    refine S.val hf hs (v := .string (ba xk1)) rfl rfl rfl (V.loadEl (off := 0) (Ag.args _ _ _) (hv_s_.flat hxk1) rfl rfl rfl Tryz.isAgg9 Tryz.sizeOf9 rfl rfl) (fun a hf => ?_)
    refine S.call hf rfl rfl rfl (call_fn (vs := [.string (ba xk1)]) rfl rfl rfl Tryz.call81) (R_stack_notRow xk1 _  _ h) (fun v a w' hf hr => ?_)
    obtain ⟨y1, rfl, h2, hs2⟩ := hr
    replace h := h2; replace hs := hs.call hs2; clear h2 hs2
    refine R.nil ?_
    refine X.then_ ?_
    refine C.cond hf (b := y1) rfl (fun hc => ?_) (fun hc => ?_)
    · replace h := h.1 hc
      refine wp_seq ?_
      refine R.list ?_
      refine S.val hf hs (v := .int .i64 (k1 : Int)) rfl rfl rfl (V.pure rfl) (fun a hf => ?_)
      refine S.val hf hs (v := .int .i64 (k1 : Int)) rfl rfl rfl (V.pure rfl) (fun a hf => ?_)
      refine R.nil ?_
      refine X.then_ ?_
      refine wp_ret ?_
      refine X.blk_ret ?_
      refine X.then_ret ?_
      refine X.then_ret ?_
      refine X.blk_ret ?_
      refine X.then_ret ?_
      exact L.ret hf (run_results1 Tryz.results140 (ResIs.tmp hf rfl)) ⟨(k1 : Int), rfl, h, hs.nil⟩
    · replace h := h.2 hc
      refine wp_skip ?_
      refine X.blk ?_
      refine X.then_ ?_
      refine R.list ?_
      refine S.val hf hs (v := .int .i64 ((k1 + 1 : Nat) : Int)) rfl rfl rfl (V.incr rfl rfl rfl hltk1 hlenk1) (fun a hf => ?_)
      refine S.val hf hs (v := .int .i64 ((k1 + 1 : Nat) : Int)) rfl rfl rfl (V.pure rfl) (fun a hf => ?_)
      refine R.nil ?_
      refine X.then_ ?_
      exact ⟨xk1, llk1, rfl, k1 + 1, range_drop hlk1, range_len hkk1, (by rw [hnext1] at h; exact h), ((((hf.nil.cons (hf.get 7 _ rfl)).cons (hf.get 1 _ rfl)).cons (hf.get 0 _ rfl)).cons (hf.get 8 _ rfl)), hs⟩

set_option linter.unusedVariables false
def M_contains_stack (s_ : (List Str)) (Q : Bool → Prop) : Prop :=
  M_indexfunc_stack s_ fun y1 => Q (decide (y1 ≥ 0))
set_option maxHeartbeats 1000000 in
theorem R_contains_stack (s_ : (List Str)) (w0 : World) (s_A : Option Addr) (s_C : Nat) (hv_s_ : View w0 (old w0 none_) s_A s_C s_) (Q : Bool → Prop) (h : M_contains_stack s_ Q) :
    Ret Tryz.prog 80 #[.slice s_A s_.length s_C, .func (.func 81) #[] #[]] w0 fun v w' => ∃ (r0 : Bool), v = .bool r0 ∧ Q r0 ∧ Sat w0 none_ [] w' := by
  refine fn_enter Tryz.func80 rfl Tryz.ntmps80 rfl (fs := [(0, .slice s_A s_.length s_C), (1, .func (.func 81) #[] #[])]) rfl (fun a hf => ?_)
  have hs := Sat.start w0 none_
  unfold M_contains_stack at h
  refine wp_seq ?_
  refine R.list ?_
  refine S.val hf hs (v := .bool false) rfl rfl rfl (V.pure rfl) (fun a hf => ?_)
  refine R.nil ?_
  refine X.then_ ?_
  refine wp_seq ?_
  refine R.list ?_
  refine S.val hf hs (v := .slice s_A s_.length s_C) rfl rfl rfl (V.pure rfl) (fun a hf => ?_)
  refine S.val hf hs (v := .func (.func 81) #[] #[]) rfl rfl rfl (V.pure rfl) (fun a hf => ?_)
  refine S.call hf rfl rfl rfl (call_fn (vs := [.slice s_A s_.length s_C, .func (.func 81) #[] #[]]) rfl rfl rfl Tryz.call140) (R_indexfunc_stack s_ _ s_A s_C ((Ag.args _ _ _).view hv_s_ hs) _ h) (fun v a w' hf hr => ?_)
  obtain ⟨y1, rfl, h2, hs2⟩ := hr
  replace h := h2; replace hs := hs.call hs2; clear h2 hs2
  refine S.val hf hs (v := .bool (decide (y1 ≥ 0))) rfl rfl rfl (V.pure rfl) (fun a hf => ?_)
  refine S.val hf hs (v := .bool (decide (y1 ≥ 0))) rfl rfl rfl (V.pure rfl) (fun a hf => ?_)
  refine R.nil ?_
  refine X.then_ ?_
  refine wp_ret ?_
  exact L.ret hf (run_results1 Tryz.results80 (ResIs.tmp hf rfl)) ⟨(decide (y1 ≥ 0)), rfl, h, hs.nil⟩

set_option linter.unusedVariables false
def M_stack_number_k1 (s_ : Str) (Q : Int → Bool → Prop) (c1 : Bool) : Prop :=
  cnd c1 (Q 0 false) (M_strconv_Atoi s_ fun y1 y2 => Q y1 true)
def M_stack_number (s_ : Str) (Q : Int → Bool → Prop) : Prop :=
  cnd (decide ((s_.length : Int) < 1)) (M_stack_number_k1 s_ Q true) (cnd (decide ((s_.length : Int) > 9)) (M_stack_number_k1 s_ Q true) (M_strings_Trim s_ [48, 49, 50, 51, 52, 53, 54, 55, 56, 57] fun y3 => cnd (!(y3 == [])) (M_stack_number_k1 s_ Q true) (idx s_ 0 fun x1 => cnd ((x1.toNat : Int) == 48) (M_stack_number_k1 s_ Q (!(s_ == [48]))) (M_stack_number_k1 s_ Q false))))
set_option maxHeartbeats 1000000 in
theorem R_stack_number (s_ : Str) (w0 : World)  (Q : Int → Bool → Prop) (h : M_stack_number s_ Q) :
    Ret Tryz.prog 84 #[.string (ba s_)] w0 fun v w' => ∃ (r0 : Int) (r1 : Bool), v = .tuple #[.int .i64 r0, .bool r1] ∧ Q r0 r1 ∧ Sat w0 none_ [] w' := by
  refine fn_enter Tryz.func84 rfl Tryz.ntmps84 rfl (fs := [(0, .string (ba s_))]) rfl (fun a hf => ?_)
  have hs := Sat.start w0 none_
  unfold M_stack_number at h
  refine wp_seq ?_
  refine R.list ?_
  refine S.val hf hs (v := .int .i64 0) rfl rfl rfl (V.pure rfl) (fun a hf => ?_)
  refine S.val hf hs (v := .bool false) rfl rfl rfl (V.pure rfl) (fun a hf => ?_)
  refine R.nil ?_
  refine X.then_ ?_
  refine wp_seq ?_
  refine wp_seq ?_
  refine C.cut (J := fun a w => ∃ (c1 : Bool), M_stack_number_k1 s_ Q c1 ∧ FrOk 34 [(0, .string (ba s_)), (27, .bool c1)] a ∧ Sat w0 none_ [] w) ?_ ?_
  · rintro a w ⟨c1, h, hf, hs⟩
    unfold M_stack_number_k1 at h
    refine C.cond hf (b := c1) rfl (fun hc => ?_) (fun hc => ?_)
    · replace h := h.1 hc
      refine wp_seq ?_
      refine R.list ?_
      refine S.val hf hs (v := .int .i64 0) rfl rfl rfl (V.pure rfl) (fun a hf => ?_)
      refine S.val hf hs (v := .bool false) rfl rfl rfl (V.pure rfl) (fun a hf => ?_)
      refine R.nil ?_
      refine X.then_ ?_
      refine wp_ret ?_
      refine X.then_ret ?_
      exact L.ret hf (run_results2 Tryz.results84 (ResIs.tmp hf rfl) (ResIs.tmp hf rfl)) ⟨0, false, rfl, h, hs.nil⟩
    · replace h := h.2 hc
      refine wp_skip ?_
      refine X.then_ ?_
      refine wp_seq ?_
      refine R.list ?_
      refine S.val hf hs (v := .string (ba s_)) rfl rfl rfl (V.pure rfl) (fun a hf => ?_)
      refine S.call hf rfl rfl rfl (call_fn (vs := [.string (ba s_)]) rfl rfl rfl Tryz.call143) (R_strconv_Atoi s_ _  _ h) (fun v a w' hf hr => ?_)
      obtain ⟨y1, y2, rfl, h2, hs2⟩ := hr
      replace h := h2; replace hs := hs.call hs2; clear h2 hs2
      refine S.val hf hs (v := .tuple #[.int .i64 y1, .nilIface]) rfl rfl rfl (V.pure rfl) (fun a hf => ?_)
      refine S.val hf hs (v := .int .i64 y1) rfl rfl rfl (V.pure rfl) (fun a hf => ?_)
      refine S.val hf hs (v := .nilIface) rfl rfl rfl (V.pure rfl) (fun a hf => ?_)
      refine S.val hf hs (v := .int .i64 y1) rfl rfl rfl (V.pure rfl) (fun a hf => ?_)
      refine S.val hf hs (v := .nilIface) rfl rfl rfl (V.pure rfl) (fun a hf => ?_)
      refine R.nil ?_
      refine X.then_ ?_
      refine wp_seq ?_
      refine R.list ?_
      refine S.val hf hs (v := .int .i64 y1) rfl rfl rfl (V.pure rfl) (fun a hf => ?_)
      refine S.val hf hs (v := .int .i64 y1) rfl rfl rfl (V.pure rfl) (fun a hf => ?_)
      refine S.val hf hs (v := .bool true) rfl rfl rfl (V.pure rfl) (fun a hf => ?_)
      refine R.nil ?_
      refine X.then_ ?_
      refine wp_ret ?_
      exact L.ret hf (run_results2 Tryz.results84 (ResIs.tmp hf rfl) (ResIs.tmp hf rfl)) ⟨y1, true, rfl, h, hs.nil⟩
  · skip
    refine R.list ?_
    refine S.val hf hs (v := .string (ba s_)) rfl rfl rfl (V.pure rfl) (fun a hf => ?_)
    refine S.val hf hs (v := .int .i64 (s_.length : Int)) rfl rfl rfl (V.lenStr rfl rfl Tryz.runUnderlying9) (fun a hf => ?_)
    refine S.val hf hs (v := .bool (decide ((s_.length : Int) < 1))) rfl rfl rfl (V.pure rfl) (fun a hf => ?_)
    refine S.split hf hs (b := decide ((s_.length : Int) < 1)) rfl rfl rfl (V.pure rfl) (fun hc a hf => ?_) (fun hc a hf => ?_)
    · replace h := h.1 hc
      refine S.skip hf rfl rfl rfl (fun a hf => ?_)
      refine S.skip hf rfl rfl rfl (fun a hf => ?_)
      refine S.skip hf rfl rfl rfl (fun a hf => ?_)
      refine S.val hf hs (v := .bool true) rfl rfl rfl (V.pure rfl) (fun a hf => ?_)
      refine S.val hf hs (v := .bool true) rfl rfl rfl (V.pure rfl) (fun a hf => ?_)
      refine S.skip hf rfl rfl rfl (fun a hf => ?_)
      refine S.skip hf rfl rfl rfl (fun a hf => ?_)
      refine S.skip hf rfl rfl rfl (fun a hf => ?_)
      refine S.val hf hs (v := .bool true) rfl rfl rfl (V.pure rfl) (fun a hf => ?_)
      refine S.val hf hs (v := .bool true) rfl rfl rfl (V.pure rfl) (fun a hf => ?_)
      refine S.skip hf rfl rfl rfl (fun a hf => ?_)
      refine S.skip hf rfl rfl rfl (fun a hf => ?_)
      refine S.skip hf rfl rfl rfl (fun a hf => ?_)
      refine S.skip hf rfl rfl rfl (fun a hf => ?_)
      refine S.skip hf rfl rfl rfl (fun a hf => ?_)
      refine S.skip hf rfl rfl rfl (fun a hf => ?_)
      refine S.skip hf rfl rfl rfl (fun a hf => ?_)
      refine S.val hf hs (v := .bool true) rfl rfl rfl (V.pure rfl) (fun a hf => ?_)
      refine R.nil ?_
      refine X.then_ ?_
      exact ⟨true, h, ((hf.nil.cons (hf.get 27 _ rfl)).cons (hf.get 0 _ rfl)), hs⟩
    · replace h := h.2 hc
      refine S.val hf hs (v := .string (ba s_)) rfl rfl rfl (V.pure rfl) (fun a hf => ?_)
      refine S.val hf hs (v := .int .i64 (s_.length : Int)) rfl rfl rfl (V.lenStr rfl rfl Tryz.runUnderlying9) (fun a hf => ?_)
      refine S.val hf hs (v := .bool (decide ((s_.length : Int) > 9))) rfl rfl rfl (V.pure rfl) (fun a hf => ?_)
      refine S.val hf hs (v := .bool (decide ((s_.length : Int) > 9))) rfl rfl rfl (V.pure rfl) (fun a hf => ?_)
      refine S.split hf hs (b := decide ((s_.length : Int) > 9)) rfl rfl rfl (V.pure rfl) (fun hc a hf => ?_) (fun hc a hf => ?_)
      · replace h := h.1 hc
        refine S.skip hf rfl rfl rfl (fun a hf => ?_)
        refine S.skip hf rfl rfl rfl (fun a hf => ?_)
        refine S.skip hf rfl rfl rfl (fun a hf => ?_)
        refine S.val hf hs (v := .bool true) rfl rfl rfl (V.pure rfl) (fun a hf => ?_)
        refine S.val hf hs (v := .bool true) rfl rfl rfl (V.pure rfl) (fun a hf => ?_)
        refine S.skip hf rfl rfl rfl (fun a hf => ?_)
        refine S.skip hf rfl rfl rfl (fun a hf => ?_)
        refine S.skip hf rfl rfl rfl (fun a hf => ?_)
        refine S.skip hf rfl rfl rfl (fun a hf => ?_)
        refine S.skip hf rfl rfl rfl (fun a hf => ?_)
        refine S.skip hf rfl rfl rfl (fun a hf => ?_)
        refine S.skip hf rfl rfl rfl (fun a hf => ?_)
        refine S.val hf hs (v := .bool true) rfl rfl rfl (V.pure rfl) (fun a hf => ?_)
        refine R.nil ?_
        refine X.then_ ?_
        exact ⟨true, h, ((hf.nil.cons (hf.get 27 _ rfl)).cons (hf.get 0 _ rfl)), hs⟩
      · replace h := h.2 hc
        refine S.val hf hs (v := .string (ba s_)) rfl rfl rfl (V.pure rfl) (fun a hf => ?_)
        refine S.call hf rfl rfl rfl (call_fn (vs := [.string (ba s_), .string (ba [48, 49, 50, 51, 52, 53, 54, 55, 56, 57])]) rfl rfl rfl Tryz.call142) (R_strings_Trim s_ [48, 49, 50, 51, 52, 53, 54, 55, 56, 57] _  _ h) (fun v a w' hf hr => ?_)
        obtain ⟨y3, rfl, h2, hs2⟩ := hr
        replace h := h2; replace hs := hs.call hs2; clear h2 hs2
        refine S.val hf hs (v := .bool (!(y3 == []))) rfl rfl rfl (V.strCmp (!(y3 == [])) rfl rfl rfl rfl) (fun a hf => ?_)
        refine S.val hf hs (v := .bool (!(y3 == []))) rfl rfl rfl (V.pure rfl) (fun a hf => ?_)
        refine S.split hf hs (b := !(y3 == [])) rfl rfl rfl (V.pure rfl) (fun hc a hf => ?_) (fun hc a hf => ?_)
        · replace h := h.1 hc
          refine S.skip hf rfl rfl rfl (fun a hf => ?_)
          refine S.skip hf rfl rfl rfl (fun a hf => ?_)
          refine S.skip hf rfl rfl rfl (fun a hf => ?_)
          refine S.skip hf rfl rfl rfl (fun a hf => ?_)
          refine S.skip hf rfl rfl rfl (fun a hf => ?_)
          refine S.skip hf rfl rfl rfl (fun a hf => ?_)
          refine S.skip hf rfl rfl rfl (fun a hf => ?_)
          refine S.val hf hs (v := .bool true) rfl rfl rfl (V.pure rfl) (fun a hf => ?_)
          refine R.nil ?_
          refine X.then_ ?_
          exact ⟨true, h, ((hf.nil.cons (hf.get 27 _ rfl)).cons (hf.get 0 _ rfl)), hs⟩
        · replace h := h.2 hc
          refine S.val hf hs (v := .string (ba s_)) rfl rfl rfl (V.pure rfl) (fun a hf => ?_)
          obtain ⟨h0x1, x1, hx1, h⟩ := h
          refine S.val hf hs (v := .int .u8 (x1.toNat : Int)) rfl rfl rfl (V.indexStr rfl rfl rfl Tryz.runUnderlying9 h0x1 hx1) (fun a hf => ?_)
          refine S.val hf hs (v := .bool ((x1.toNat : Int) == 48)) rfl rfl rfl (V.pure rfl) (fun a hf => ?_)
          refine S.split hf hs (b := (x1.toNat : Int) == 48) rfl rfl rfl (V.pure rfl) (fun hc a hf => ?_) (fun hc a hf => ?_)
          · replace h := h.1 hc
            refine S.val hf hs (v := .string (ba s_)) rfl rfl rfl (V.pure rfl) (fun a hf => ?_)
            refine S.val hf hs (v := .bool (!(s_ == [48]))) rfl rfl rfl (V.strCmp (!(s_ == [48])) rfl rfl rfl rfl) (fun a hf => ?_)
            refine S.val hf hs (v := .bool (!(s_ == [48]))) rfl rfl rfl (V.pure rfl) (fun a hf => ?_)
            refine S.val hf hs (v := .bool (!(s_ == [48]))) rfl rfl rfl (V.pure rfl) (fun a hf => ?_)
            refine R.nil ?_
            refine X.then_ ?_
            exact ⟨(!(s_ == [48])), h, ((hf.nil.cons (hf.get 27 _ rfl)).cons (hf.get 0 _ rfl)), hs⟩
          · replace h := h.2 hc
            refine S.skip hf rfl rfl rfl (fun a hf => ?_)
            refine S.skip hf rfl rfl rfl (fun a hf => ?_)
            refine S.val hf hs (v := .bool false) rfl rfl rfl (V.pure rfl) (fun a hf => ?_)
            refine S.val hf hs (v := .bool false) rfl rfl rfl (V.pure rfl) (fun a hf => ?_)
            refine R.nil ?_
            refine X.then_ ?_
            exact ⟨false, h, ((hf.nil.cons (hf.get 27 _ rfl)).cons (hf.get 0 _ rfl)), hs⟩

set_option linter.unusedVariables false
def M_stack_readLine_k3 (m : (List Material)) (s_ : (List Layer)) (Q : Bool → (List Material) → (List Layer) → Prop) (y1 : (List Str)) (c3 : Bool) : Prop :=
  cnd c3 (idx y1 1 fun x7 => must (room (s_ ++ [(⟨[], x7⟩ : Layer)]).length 32) (Q true m (s_ ++ [(⟨[], x7⟩ : Layer)]))) (Q false m s_)
def M_stack_readLine_k2 (m : (List Material)) (s_ : (List Layer)) (Q : Bool → (List Material) → (List Layer) → Prop) (y1 : (List Str)) (c2 : Bool) : Prop :=
  cnd c2 (idx y1 1 fun x5 => idx y1 2 fun x6 => must (room (s_ ++ [(⟨x5, x6⟩ : Layer)]).length 32) (Q true m (s_ ++ [(⟨x5, x6⟩ : Layer)]))) (idx y1 0 fun x8 => cnd (x8 == [108, 97, 121, 101, 114]) (M_stack_readLine_k3 m s_ Q y1 ((y1.length : Int) == 2)) (M_stack_readLine_k3 m s_ Q y1 false))
def M_stack_readLine_k1 (m : (List Material)) (s_ : (List Layer)) (Q : Bool → (List Material) → (List Layer) → Prop) (y1 : (List Str)) (c1 : Bool) : Prop :=
  cnd c1 (idx y1 2 fun x1 => M_index_str ([[], [99, 111, 112, 112, 101, 114], [99, 111, 114, 101], [103, 108, 117, 101]] : List Str) x1 fun y3 => idx y1 3 fun x2 => M_stack_number x2 fun y4 y5 => idx y1 4 fun x3 => M_stack_number x3 fun y6 y7 => idx y1 1 fun x4 => must (room (m ++ [(⟨x4, y3, y4, y6⟩ : Material)]).length 40) (cnd (decide (y3 > 0)) (cnd y5 (Q y7 (m ++ [(⟨x4, y3, y4, y6⟩ : Material)]) s_) (Q false (m ++ [(⟨x4, y3, y4, y6⟩ : Material)]) s_)) (Q false (m ++ [(⟨x4, y3, y4, y6⟩ : Material)]) s_))) (idx y1 0 fun x9 => cnd (x9 == [99, 111, 112, 112, 101, 114]) (M_stack_readLine_k2 m s_ Q y1 ((y1.length : Int) == 3)) (M_stack_readLine_k2 m s_ Q y1 false))
def M_stack_readLine (m : (List Material)) (s_ : (List Layer)) (line : Str) (Q : Bool → (List Material) → (List Layer) → Prop) : Prop :=
  M_strings_Split line [32] fun y1 => M_contains_stack y1 fun y2 => cnd y2 (Q false m s_) (idx y1 0 fun x10 => cnd (x10 == [109, 97, 116, 101, 114, 105, 97, 108]) (cnd ((y1.length : Int) == 5) (M_stack_readLine_k1 m s_ Q y1 ((s_.length : Int) == 0)) (M_stack_readLine_k1 m s_ Q y1 false)) (M_stack_readLine_k1 m s_ Q y1 false))
set_option maxHeartbeats 1000000 in
theorem R_stack_readLine (m : (List Material)) (s_ : (List Layer)) (line : Str) (w0 : World) (F0 : Nat → Prop) (mg : Nat) (mA : Option Addr) (mC : Nat) (s_g : Nat) (s_A : Option Addr) (s_C : Nat) (hs0 : Sat w0 F0 [hbox mg 22 [.slice mA m.length mC], hown 29 mA mC m, hbox s_g 23 [.slice s_A s_.length s_C], hown 32 s_A s_C s_] w0) (Q : Bool → (List Material) → (List Layer) → Prop) (h : M_stack_readLine m s_ line Q) :
    Ret Tryz.prog 39 #[.pointer (some ⟨mg, 0, none⟩), .pointer (some ⟨s_g, 0, none⟩), .string (ba line)] w0 fun v w' => ∃ (r0 : Bool) (m1 : (List Material)) (m1A : Option Addr) (m1C : Nat) (s_1 : (List Layer)) (s_1A : Option Addr) (s_1C : Nat), v = .bool r0 ∧ Q r0 m1 s_1 ∧ Sat w0 F0 [hbox mg 22 [.slice m1A m1.length m1C], hown 29 m1A m1C m1, hbox s_g 23 [.slice s_1A s_1.length s_1C], hown 32 s_1A s_1C s_1] w' := by
  refine fn_enter Tryz.func39 rfl Tryz.ntmps39 rfl (fs := [(0, .pointer (some ⟨mg, 0, none⟩)), (1, .pointer (some ⟨s_g, 0, none⟩)), (2, .string (ba line))]) rfl (fun a hf => ?_)
  have hs := hs0
  unfold M_stack_readLine at h
  refine wp_seq ?_
  refine R.list ?_
  refine S.val hf hs (v := .bool false) rfl rfl rfl (V.pure rfl) (fun a hf => ?_)
  refine R.nil ?_
  refine X.then_ ?_
  refine wp_seq ?_
  refine R.list ?_
  refine S.val hf hs (v := .string (ba line)) rfl rfl rfl (V.pure rfl) (fun a hf => ?_)
  refine S.call hf rfl rfl rfl (call_fn (vs := [.string (ba line), .string (ba [32])]) rfl rfl rfl Tryz.call41) (R_strings_Split line [32] _  _ h) (fun v a w' hf hr => ?_)
  obtain ⟨y1, y1A, y1C, rfl, h2, hs2⟩ := hr
  replace h := h2; replace hs := hs.call hs2; clear h2 hs2
  refine S.val hf hs (v := .slice y1A y1.length y1C) rfl rfl rfl (V.pure rfl) (fun a hf => ?_)
  refine R.nil ?_
  refine X.then_ ?_
  refine wp_seq ?_
  refine wp_seq ?_
  refine R.list ?_
  refine S.val hf hs (v := .slice y1A y1.length y1C) rfl rfl rfl (V.pure rfl) (fun a hf => ?_)
  refine S.call hf rfl rfl rfl (call_fn (vs := [.slice y1A y1.length y1C, .func (.func 81) #[] #[]]) rfl rfl rfl Tryz.call80) (R_contains_stack y1 _ y1A y1C (hs.ownView 0 rfl) _ h) (fun v a w' hf hr => ?_)
  obtain ⟨y2, rfl, h2, hs2⟩ := hr
  replace h := h2; replace hs := hs.call hs2; clear h2 hs2
  refine R.nil ?_
  refine X.then_ ?_
  refine C.cond hf (b := y2) rfl (fun hc => ?_) (fun hc => ?_)
  · replace h := h.1 hc
    refine wp_seq ?_
    refine R.list ?_
    refine S.val hf hs (v := .bool false) rfl rfl rfl (V.pure rfl) (fun a hf => ?_)
    refine R.nil ?_
    refine X.then_ ?_
    refine wp_ret ?_
    refine X.then_ret ?_
    replace hs := hs.front 4 rfl
    replace hs := hs.front 4 rfl
    replace hs := hs.front 4 rfl
    replace hs := hs.front 4 rfl
    replace hs := hs.take 4
    exact L.ret hf (run_results1 Tryz.results39 (ResIs.tmp hf rfl)) ⟨false, m, mA, mC, s_, s_A, s_C, rfl, h, hs⟩
  · replace h := h.2 hc
    refine wp_skip ?_
    refine X.then_ ?_
    refine wp_seq ?_
    refine wp_block ?_
    refine wp_seq ?_
    refine C.cut (J := fun a w => ∃ (c1 : Bool), M_stack_readLine_k1 m s_ Q y1 c1 ∧ FrOk 120 [(0, .pointer (some ⟨mg, 0, none⟩)), (1, .pointer (some ⟨s_g, 0, none⟩)), (7, .slice y1A y1.length y1C), (17, .bool c1)] a ∧ Sat w0 F0 [hown 9 y1A y1C y1, hbox mg 22 [.slice mA m.length mC], hown 29 mA mC m, hbox s_g 23 [.slice s_A s_.length s_C], hown 32 s_A s_C s_] w) ?_ ?_
    · rintro a w ⟨c1, h, hf, hs⟩
      unfold M_stack_readLine_k1 at h
      refine C.cond hf (b := c1) rfl (fun hc => ?_) (fun hc => ?_)
      · replace h := h.1 hc
        refine wp_seq ?_
        refine R.list ?_
        refine S.buildSlice hf hs rfl rfl rfl (α := Str) [[], [99, 111, 112, 112, 101, 114], [99, 111, 114, 101], [103, 108, 117, 101]] rfl rfl Tryz.runUnderlying74 Tryz.sizeOf9 Tryz.zeroValue9 (by kernel_rfl) rfl (by decide) (by decide) (fun A1 a w hf hs => ?_)
        refine S.val hf hs (v := .slice y1A y1.length y1C) rfl rfl rfl (V.pure rfl) (fun a hf => ?_)
        obtain ⟨h0x1, x1, hx1, h⟩ := h
        refine S.val hf hs (v := elemPtr y1A (2 * 1)) rfl rfl rfl (V.index rfl rfl rfl Tryz.runUnderlying74 Tryz.sizeOf9 (hs.ownSome 1 rfl (lt_of_get hx1)) h0x1 (lt_of_get hx1) rfl) (fun a hf => ?_)
        refine S.val hf hs (v := .string (ba x1)) rfl rfl rfl (V.loadOwn (off := 0) 1 rfl hx1 rfl rfl rfl Tryz.isAgg9 Tryz.sizeOf9 rfl rfl) (fun a hf => ?_)
        refine S.call hf rfl rfl rfl (call_fn (vs := [.slice A1 ([[], [99, 111, 112, 112, 101, 114], [99, 111, 114, 101], [103, 108, 117, 101]] : List Str).length 4, .string (ba x1)]) rfl rfl rfl Tryz.call83) (R_index_str ([[], [99, 111, 112, 112, 101, 114], [99, 111, 114, 101], [103, 108, 117, 101]] : List Str) x1 _ A1 4 (hs.ownView 0 rfl) _ h) (fun v a w' hf hr => ?_)
        obtain ⟨y3, rfl, h2, hs2⟩ := hr
        replace h := h2; replace hs := hs.call hs2; clear h2 hs2
        refine S.val hf hs (v := .int .i64 y3) rfl rfl rfl (V.pure rfl) (fun a hf => ?_)
        refine R.nil ?_
        refine X.then_ ?_
        refine wp_seq ?_
        refine R.list ?_
        refine S.val hf hs (v := .slice y1A y1.length y1C) rfl rfl rfl (V.pure rfl) (fun a hf => ?_)
        obtain ⟨h0x2, x2, hx2, h⟩ := h
        refine S.val hf hs (v := elemPtr y1A (3 * 1)) rfl rfl rfl (V.index rfl rfl rfl Tryz.runUnderlying74 Tryz.sizeOf9 (hs.ownSome 1 rfl (lt_of_get hx2)) h0x2 (lt_of_get hx2) rfl) (fun a hf => ?_)
        refine S.val hf hs (v := .string (ba x2)) rfl rfl rfl (V.loadOwn (off := 0) 1 rfl hx2 rfl rfl rfl Tryz.isAgg9 Tryz.sizeOf9 rfl rfl) (fun a hf => ?_)
        refine S.call hf rfl rfl rfl (call_fn (vs := [.string (ba x2)]) rfl rfl rfl Tryz.call84) (R_stack_number x2 _  _ h) (fun v a w' hf hr => ?_)
        obtain ⟨y4, y5, rfl, h2, hs2⟩ := hr
        replace h := h2; replace hs := hs.call hs2; clear h2 hs2
        refine S.val hf hs (v := .tuple #[.int .i64 y4, .bool y5]) rfl rfl rfl (V.pure rfl) (fun a hf => ?_)
        refine S.val hf hs (v := .int .i64 y4) rfl rfl rfl (V.pure rfl) (fun a hf => ?_)
        refine S.val hf hs (v := .bool y5) rfl rfl rfl (V.pure rfl) (fun a hf => ?_)
        refine S.val hf hs (v := .int .i64 y4) rfl rfl rfl (V.pure rfl) (fun a hf => ?_)
        refine S.val hf hs (v := .bool y5) rfl rfl rfl (V.pure rfl) (fun a hf => ?_)
        refine R.nil ?_
        refine X.then_ ?_
        refine wp_seq ?_
        refine R.list ?_
        refine S.val hf hs (v := .slice y1A y1.length y1C) rfl rfl rfl (V.pure rfl) (fun a hf => ?_)
        obtain ⟨h0x3, x3, hx3, h⟩ := h
        refine S.val hf hs (v := elemPtr y1A (4 * 1)) rfl rfl rfl (V.index rfl rfl rfl Tryz.runUnderlying74 Tryz.sizeOf9 (hs.ownSome 1 rfl (lt_of_get hx3)) h0x3 (lt_of_get hx3) rfl) (fun a hf => ?_)
        refine S.val hf hs (v := .string (ba x3)) rfl rfl rfl (V.loadOwn (off := 0) 1 rfl hx3 rfl rfl rfl Tryz.isAgg9 Tryz.sizeOf9 rfl rfl) (fun a hf => ?_)
        refine S.call hf rfl rfl rfl (call_fn (vs := [.string (ba x3)]) rfl rfl rfl Tryz.call84) (R_stack_number x3 _  _ h) (fun v a w' hf hr => ?_)
        obtain ⟨y6, y7, rfl, h2, hs2⟩ := hr
        replace h := h2; replace hs := hs.call hs2; clear h2 hs2
        refine S.val hf hs (v := .tuple #[.int .i64 y6, .bool y7]) rfl rfl rfl (V.pure rfl) (fun a hf => ?_)
        refine S.val hf hs (v := .int .i64 y6) rfl rfl rfl (V.pure rfl) (fun a hf => ?_)
        refine S.val hf hs (v := .bool y7) rfl rfl rfl (V.pure rfl) (fun a hf => ?_)
        refine S.val hf hs (v := .int .i64 y6) rfl rfl rfl (V.pure rfl) (fun a hf => ?_)
        refine S.val hf hs (v := .bool y7) rfl rfl rfl (V.pure rfl) (fun a hf => ?_)
        refine R.nil ?_
        refine X.then_ ?_
        refine wp_seq ?_
        refine H.start (S := Sat w0 F0 [hown 9 A1 4 ([[], [99, 111, 112, 112, 101, 114], [99, 111, 114, 101], [103, 108, 117, 101]] : List Str), hown 9 y1A y1C y1, hbox s_g 23 [.slice s_A s_.length s_C], hown 32 s_A s_C s_]) mo ?_
        replace hs := hs.drew
        refine H.val hf (hs.mask [true, true, false, false, true, true]) (v := .pointer (some ⟨mg, 0, none⟩)) (i := 0) rfl rfl rfl rfl (by kernel_rfl) (by kernel_rfl) (by kernel_rfl) (V.pure rfl) (fun a hf => ?_)
        refine H.val hf (hs.mask [true, true, false, false, true, true]) (v := .pointer (some ⟨mg, 0, none⟩)) (i := 1) rfl rfl rfl rfl (by kernel_rfl) (by kernel_rfl) (by kernel_rfl) (V.pure rfl) (fun a hf => ?_)
        refine H.val hf (hs.mask [true, true, false, false, true, true]) (v := .pointer (some ⟨mg, 0, none⟩)) (i := 2) rfl rfl rfl rfl (by kernel_rfl) (by kernel_rfl) (by kernel_rfl) (V.pure rfl) (fun a hf => ?_)
        refine H.val hf (hs.mask [true, true, false, false, true, true]) (v := .slice y1A y1.length y1C) (i := 4) rfl rfl rfl rfl (by kernel_rfl) (by kernel_rfl) (by kernel_rfl) (V.pure rfl) (fun a hf => ?_)
        obtain ⟨h0x4, x4, hx4, h⟩ := h
        refine H.val hf (hs.mask [true, true, false, false, true, true]) (v := elemPtr y1A (1 * 1)) (i := 5) rfl rfl rfl rfl (by kernel_rfl) (by kernel_rfl) (by kernel_rfl) (V.index rfl rfl rfl Tryz.runUnderlying74 Tryz.sizeOf9 (hs.ownSome 1 rfl (lt_of_get hx4)) h0x4 (lt_of_get hx4) rfl) (fun a hf => ?_)
        refine H.val hf (hs.mask [true, true, false, false, true, true]) (v := .string (ba x4)) (i := 6) rfl rfl rfl rfl (by kernel_rfl) (by kernel_rfl) (by kernel_rfl) (V.loadOwn (off := 0) 1 rfl hx4 rfl rfl rfl Tryz.isAgg9 Tryz.sizeOf9 rfl rfl) (fun a hf => ?_)
        refine H.val hf (hs.mask [true, true, false, false, true, true]) (v := .int .i64 y3) (i := 7) rfl rfl rfl rfl (by kernel_rfl) (by kernel_rfl) (by kernel_rfl) (V.pure rfl) (fun a hf => ?_)
        refine H.val hf (hs.mask [true, true, false, false, true, true]) (v := .int .i64 y4) (i := 8) rfl rfl rfl rfl (by kernel_rfl) (by kernel_rfl) (by kernel_rfl) (V.pure rfl) (fun a hf => ?_)
        refine H.val hf (hs.mask [true, true, false, false, true, true]) (v := .int .i64 y6) (i := 9) rfl rfl rfl rfl (by kernel_rfl) (by kernel_rfl) (by kernel_rfl) (V.pure rfl) (fun a hf => ?_)
        refine H.each2 (i0 := 3) (i1 := 10) rfl rfl (by kernel_rfl) ?_ ?_
        · refine S.val hf hs (v := .slice mA m.length mC) rfl rfl rfl (V.loadBox 2 rfl rfl rfl Tryz.isAgg22 Tryz.sizeOf22 rfl rfl) (fun a hf => ?_)
          refine R.nil ?_
          refine X.then_ ?_
          refine ⟨(hs.mask [true, true, false, false, true, true]), ?_⟩
          refine H.one (i := 10) rfl (by kernel_rfl) ?_
          refine S.val hf hs (v := .agg #[.string (ba x4), .int .i64 y3, .int .i64 y4, .int .i64 y6]) rfl rfl rfl (V.build (places := #[(0, 1), (1, 1), (2, 1), (3, 1)]) rfl Tryz.zeroValue29 Tryz.runUnderlying29 (by intro w; simp [Tryz.sizeOf3, Tryz.sizeOf9]) rfl rfl) (fun a hf => ?_)
          refine R.nil ?_
          refine X.then_ ?_
          refine ⟨(hs.mask [true, true, false, false, true, true]), ?_⟩
          refine H.one (i := 11) rfl (by kernel_rfl) ?_
          refine S.build1 hf hs rfl rfl rfl (α := Material) (⟨x4, y3, y4, y6⟩ : Material) rfl rfl rfl Tryz.runUnderlying22 Tryz.sizeOf29 Tryz.zeroValue29 rfl (by decide) (fun A2 a w hf hs => ?_)
          refine R.nil ?_
          refine X.then_ ?_
          refine ⟨(hs.mask [false, true, true, false, false, true, true]), ?_⟩
          refine H.one (i := 12) rfl (by kernel_rfl) ?_
          obtain ⟨hroom, h⟩ := h
          refine S.appendCells 4 hf hs rfl rfl rfl rfl rfl rfl rfl Tryz.underlying22 info29 rfl hroom ((hs.ownView 0 rfl).some_ (i := 0) (by simp)) (hs.ownView 0 rfl) (fun A3 C1 a w hf hs => ?_)
          replace hs := hs.drop
          refine R.nil ?_
          refine X.then_ ?_
          refine ⟨(hs.mask [true, true, false, false, true, true]), ?_⟩
          refine H.val hf (hs.mask [true, true, false, false, true, true]) (v := .pointer (some ⟨mg, 0, none⟩)) (i := 13) rfl rfl rfl rfl (by kernel_rfl) (by kernel_rfl) (by kernel_rfl) (V.pure rfl) (fun a hf => ?_)
          refine H.one (i := 14) rfl (by kernel_rfl) ?_
          refine S.storeBox 2 hf hs rfl rfl [.slice A3 (m ++ [(⟨x4, y3, y4, y6⟩ : Material)]).length C1] [.slice A3 (m ++ [(⟨x4, y3, y4, y6⟩ : Material)]).length C1] rfl rfl rfl rfl rfl Tryz.sizeOf22 rfl rfl rfl rfl (fun a w hf hs => ?_)
          refine R.nil ?_
          refine X.then_ ?_
          refine ⟨(hs.mask [true, true, false, false, true, true]), ?_⟩
          refine H.done (by kernel_rfl) ?_
          refine X.then_ ?_
          refine wp_seq ?_
          refine R.list ?_
          refine S.val hf hs (v := .int .i64 y3) rfl rfl rfl (V.pure rfl) (fun a hf => ?_)
          refine S.val hf hs (v := .bool (decide (y3 > 0))) rfl rfl rfl (V.pure rfl) (fun a hf => ?_)
          refine S.split hf hs (b := decide (y3 > 0)) rfl rfl rfl (V.pure rfl) (fun hc a hf => ?_) (fun hc a hf => ?_)
          · replace h := h.1 hc
            refine S.val hf hs (v := .bool y5) rfl rfl rfl (V.pure rfl) (fun a hf => ?_)
            refine S.val hf hs (v := .bool y5) rfl rfl rfl (V.pure rfl) (fun a hf => ?_)
            refine S.split hf hs (b := y5) rfl rfl rfl (V.pure rfl) (fun hc a hf => ?_) (fun hc a hf => ?_)
            · replace h := h.1 hc
              refine S.val hf hs (v := .bool y7) rfl rfl rfl (V.pure rfl) (fun a hf => ?_)
              refine S.val hf hs (v := .bool y7) rfl rfl rfl (V.pure rfl) (fun a hf => ?_)
              refine S.val hf hs (v := .bool y7) rfl rfl rfl (V.pure rfl) (fun a hf => ?_)
              refine R.nil ?_
              refine X.then_ ?_
              refine wp_ret ?_
              refine X.blk_ret ?_
              refine X.then_ret ?_
              replace hs := hs.front 5 rfl
              replace hs := hs.front 5 rfl
              replace hs := hs.front 5 rfl
              replace hs := hs.front 5 rfl
              replace hs := hs.take 4
              exact L.ret hf (run_results1 Tryz.results39 (ResIs.tmp hf rfl)) ⟨y7, (m ++ [(⟨x4, y3, y4, y6⟩ : Material)]), A3, C1, s_, s_A, s_C, rfl, h, hs⟩
            · replace h := h.2 hc
              refine S.skip hf rfl rfl rfl (fun a hf => ?_)
              refine S.val hf hs (v := .bool false) rfl rfl rfl (V.pure rfl) (fun a hf => ?_)
              refine S.val hf hs (v := .bool false) rfl rfl rfl (V.pure rfl) (fun a hf => ?_)
              refine R.nil ?_
              refine X.then_ ?_
              refine wp_ret ?_
              refine X.blk_ret ?_
              refine X.then_ret ?_
              replace hs := hs.front 5 rfl
              replace hs := hs.front 5 rfl
              replace hs := hs.front 5 rfl
              replace hs := hs.front 5 rfl
              replace hs := hs.take 4
              exact L.ret hf (run_results1 Tryz.results39 (ResIs.tmp hf rfl)) ⟨false, (m ++ [(⟨x4, y3, y4, y6⟩ : Material)]), A3, C1, s_, s_A, s_C, rfl, h, hs⟩
          · replace h := h.2 hc
            refine S.skip hf rfl rfl rfl (fun a hf => ?_)
            refine S.val hf hs (v := .bool false) rfl rfl rfl (V.pure rfl) (fun a hf => ?_)
            refine S.val hf hs (v := .bool false) rfl rfl rfl (V.pure rfl) (fun a hf => ?_)
            refine S.skip hf rfl rfl rfl (fun a hf => ?_)
            refine S.val hf hs (v := .bool false) rfl rfl rfl (V.pure rfl) (fun a hf => ?_)
            refine S.val hf hs (v := .bool false) rfl rfl rfl (V.pure rfl) (fun a hf => ?_)
            refine R.nil ?_
            refine X.then_ ?_
            refine wp_ret ?_
            refine X.blk_ret ?_
            refine X.then_ret ?_
            replace hs := hs.front 5 rfl
            replace hs := hs.front 5 rfl
            replace hs := hs.front 5 rfl
            replace hs := hs.front 5 rfl
            replace hs := hs.take 4
            exact L.ret hf (run_results1 Tryz.results39 (ResIs.tmp hf rfl)) ⟨false, (m ++ [(⟨x4, y3, y4, y6⟩ : Material)]), A3, C1, s_, s_A, s_C, rfl, h, hs⟩
        · refine S.val hf hs (v := .agg #[.string (ba x4), .int .i64 y3, .int .i64 y4, .int .i64 y6]) rfl rfl rfl (V.build (places := #[(0, 1), (1, 1), (2, 1), (3, 1)]) rfl Tryz.zeroValue29 Tryz.runUnderlying29 (by intro w; simp [Tryz.sizeOf3, Tryz.sizeOf9]) rfl rfl) (fun a hf => ?_)
          refine R.nil ?_
          refine X.then_ ?_
          refine ⟨(hs.mask [true, true, false, false, true, true]), ?_⟩
          refine H.each2 (i0 := 3) (i1 := 11) rfl rfl (by kernel_rfl) ?_ ?_
          · refine S.val hf hs (v := .slice mA m.length mC) rfl rfl rfl (V.loadBox 2 rfl rfl rfl Tryz.isAgg22 Tryz.sizeOf22 rfl rfl) (fun a hf => ?_)
            refine R.nil ?_
            refine X.then_ ?_
            refine ⟨(hs.mask [true, true, false, false, true, true]), ?_⟩
            refine H.one (i := 11) rfl (by kernel_rfl) ?_
            refine S.build1 hf hs rfl rfl rfl (α := Material) (⟨x4, y3, y4, y6⟩ : Material) rfl rfl rfl Tryz.runUnderlying22 Tryz.sizeOf29 Tryz.zeroValue29 rfl (by decide) (fun A2 a w hf hs => ?_)
            refine R.nil ?_
            refine X.then_ ?_
            refine ⟨(hs.mask [false, true, true, false, false, true, true]), ?_⟩
            refine H.one (i := 12) rfl (by kernel_rfl) ?_
            obtain ⟨hroom, h⟩ := h
            refine S.appendCells 4 hf hs rfl rfl rfl rfl rfl rfl rfl Tryz.underlying22 info29 rfl hroom ((hs.ownView 0 rfl).some_ (i := 0) (by simp)) (hs.ownView 0 rfl) (fun A3 C1 a w hf hs => ?_)
            replace hs := hs.drop
            refine R.nil ?_
            refine X.then_ ?_
            refine ⟨(hs.mask [true, true, false, false, true, true]), ?_⟩
            refine H.val hf (hs.mask [true, true, false, false, true, true]) (v := .pointer (some ⟨mg, 0, none⟩)) (i := 13) rfl rfl rfl rfl (by kernel_rfl) (by kernel_rfl) (by kernel_rfl) (V.pure rfl) (fun a hf => ?_)
            refine H.one (i := 14) rfl (by kernel_rfl) ?_
            refine S.storeBox 2 hf hs rfl rfl [.slice A3 (m ++ [(⟨x4, y3, y4, y6⟩ : Material)]).length C1] [.slice A3 (m ++ [(⟨x4, y3, y4, y6⟩ : Material)]).length C1] rfl rfl rfl rfl rfl Tryz.sizeOf22 rfl rfl rfl rfl (fun a w hf hs => ?_)
            refine R.nil ?_
            refine X.then_ ?_
            refine ⟨(hs.mask [true, true, false, false, true, true]), ?_⟩
            refine H.done (by kernel_rfl) ?_
            refine X.then_ ?_
            refine wp_seq ?_
            refine R.list ?_
            refine S.val hf hs (v := .int .i64 y3) rfl rfl rfl (V.pure rfl) (fun a hf => ?_)
            refine S.val hf hs (v := .bool (decide (y3 > 0))) rfl rfl rfl (V.pure rfl) (fun a hf => ?_)
            refine S.split hf hs (b := decide (y3 > 0)) rfl rfl rfl (V.pure rfl) (fun hc a hf => ?_) (fun hc a hf => ?_)
            · replace h := h.1 hc
              refine S.val hf hs (v := .bool y5) rfl rfl rfl (V.pure rfl) (fun a hf => ?_)
              refine S.val hf hs (v := .bool y5) rfl rfl rfl (V.pure rfl) (fun a hf => ?_)
              refine S.split hf hs (b := y5) rfl rfl rfl (V.pure rfl) (fun hc a hf => ?_) (fun hc a hf => ?_)
              · replace h := h.1 hc
                refine S.val hf hs (v := .bool y7) rfl rfl rfl (V.pure rfl) (fun a hf => ?_)
                refine S.val hf hs (v := .bool y7) rfl rfl rfl (V.pure rfl) (fun a hf => ?_)
                refine S.val hf hs (v := .bool y7) rfl rfl rfl (V.pure rfl) (fun a hf => ?_)
                refine R.nil ?_
                refine X.then_ ?_
                refine wp_ret ?_
                refine X.blk_ret ?_
                refine X.then_ret ?_
                replace hs := hs.front 5 rfl
                replace hs := hs.front 5 rfl
                replace hs := hs.front 5 rfl
                replace hs := hs.front 5 rfl
                replace hs := hs.take 4
                exact L.ret hf (run_results1 Tryz.results39 (ResIs.tmp hf rfl)) ⟨y7, (m ++ [(⟨x4, y3, y4, y6⟩ : Material)]), A3, C1, s_, s_A, s_C, rfl, h, hs⟩
              · replace h := h.2 hc
                refine S.skip hf rfl rfl rfl (fun a hf => ?_)
                refine S.val hf hs (v := .bool false) rfl rfl rfl (V.pure rfl) (fun a hf => ?_)
                refine S.val hf hs (v := .bool false) rfl rfl rfl (V.pure rfl) (fun a hf => ?_)
                refine R.nil ?_
                refine X.then_ ?_
                refine wp_ret ?_
                refine X.blk_ret ?_
                refine X.then_ret ?_
                replace hs := hs.front 5 rfl
                replace hs := hs.front 5 rfl
                replace hs := hs.front 5 rfl
                replace hs := hs.front 5 rfl
                replace hs := hs.take 4
                exact L.ret hf (run_results1 Tryz.results39 (ResIs.tmp hf rfl)) ⟨false, (m ++ [(⟨x4, y3, y4, y6⟩ : Material)]), A3, C1, s_, s_A, s_C, rfl, h, hs⟩
            · replace h := h.2 hc
              refine S.skip hf rfl rfl rfl (fun a hf => ?_)
              refine S.val hf hs (v := .bool false) rfl rfl rfl (V.pure rfl) (fun a hf => ?_)
              refine S.val hf hs (v := .bool false) rfl rfl rfl (V.pure rfl) (fun a hf => ?_)
              refine S.skip hf rfl rfl rfl (fun a hf => ?_)
              refine S.val hf hs (v := .bool false) rfl rfl rfl (V.pure rfl) (fun a hf => ?_)
              refine S.val hf hs (v := .bool false) rfl rfl rfl (V.pure rfl) (fun a hf => ?_)
              refine R.nil ?_
              refine X.then_ ?_
              refine wp_ret ?_
              refine X.blk_ret ?_
              refine X.then_ret ?_
              replace hs := hs.front 5 rfl
              replace hs := hs.front 5 rfl
              replace hs := hs.front 5 rfl
              replace hs := hs.front 5 rfl
              replace hs := hs.take 4
              exact L.ret hf (run_results1 Tryz.results39 (ResIs.tmp hf rfl)) ⟨false, (m ++ [(⟨x4, y3, y4, y6⟩ : Material)]), A3, C1, s_, s_A, s_C, rfl, h, hs⟩
          · refine S.build1 hf hs rfl rfl rfl (α := Material) (⟨x4, y3, y4, y6⟩ : Material) rfl rfl rfl Tryz.runUnderlying22 Tryz.sizeOf29 Tryz.zeroValue29 rfl (by decide) (fun A2 a w hf hs => ?_)
            refine R.nil ?_
            refine X.then_ ?_
            refine ⟨(hs.mask [false, true, true, false, false, true, true]), ?_⟩
            refine H.one (i := 3) rfl (by kernel_rfl) ?_
            refine S.val hf hs (v := .slice mA m.length mC) rfl rfl rfl (V.loadBox 3 rfl rfl rfl Tryz.isAgg22 Tryz.sizeOf22 rfl rfl) (fun a hf => ?_)
            refine R.nil ?_
            refine X.then_ ?_
            refine ⟨(hs.mask [false, true, true, false, false, true, true]), ?_⟩
            refine H.one (i := 12) rfl (by kernel_rfl) ?_
            obtain ⟨hroom, h⟩ := h
            refine S.appendCells 4 hf hs rfl rfl rfl rfl rfl rfl rfl Tryz.underlying22 info29 rfl hroom ((hs.ownView 0 rfl).some_ (i := 0) (by simp)) (hs.ownView 0 rfl) (fun A3 C1 a w hf hs => ?_)
            replace hs := hs.drop
            refine R.nil ?_
            refine X.then_ ?_
            refine ⟨(hs.mask [true, true, false, false, true, true]), ?_⟩
            refine H.val hf (hs.mask [true, true, false, false, true, true]) (v := .pointer (some ⟨mg, 0, none⟩)) (i := 13) rfl rfl rfl rfl (by kernel_rfl) (by kernel_rfl) (by kernel_rfl) (V.pure rfl) (fun a hf => ?_)
            refine H.one (i := 14) rfl (by kernel_rfl) ?_
            refine S.storeBox 2 hf hs rfl rfl [.slice A3 (m ++ [(⟨x4, y3, y4, y6⟩ : Material)]).length C1] [.slice A3 (m ++ [(⟨x4, y3, y4, y6⟩ : Material)]).length C1] rfl rfl rfl rfl rfl Tryz.sizeOf22 rfl rfl rfl rfl (fun a w hf hs => ?_)
            refine R.nil ?_
            refine X.then_ ?_
            refine ⟨(hs.mask [true, true, false, false, true, true]), ?_⟩
            refine H.done (by kernel_rfl) ?_
            refine X.then_ ?_
            refine wp_seq ?_
            refine R.list ?_
            refine S.val hf hs (v := .int .i64 y3) rfl rfl rfl (V.pure rfl) (fun a hf => ?_)
            refine S.val hf hs (v := .bool (decide (y3 > 0))) rfl rfl rfl (V.pure rfl) (fun a hf => ?_)
            refine S.split hf hs (b := decide (y3 > 0)) rfl rfl rfl (V.pure rfl) (fun hc a hf => ?_) (fun hc a hf => ?_)
            · replace h := h.1 hc
              refine S.val hf hs (v := .bool y5) rfl rfl rfl (V.pure rfl) (fun a hf => ?_)
              refine S.val hf hs (v := .bool y5) rfl rfl rfl (V.pure rfl) (fun a hf => ?_)
              refine S.split hf hs (b := y5) rfl rfl rfl (V.pure rfl) (fun hc a hf => ?_) (fun hc a hf => ?_)
              · replace h := h.1 hc
                refine S.val hf hs (v := .bool y7) rfl rfl rfl (V.pure rfl) (fun a hf => ?_)
                refine S.val hf hs (v := .bool y7) rfl rfl rfl (V.pure rfl) (fun a hf => ?_)
                refine S.val hf hs (v := .bool y7) rfl rfl rfl (V.pure rfl) (fun a hf => ?_)
                refine R.nil ?_
                refine X.then_ ?_
                refine wp_ret ?_
                refine X.blk_ret ?_
                refine X.then_ret ?_
                replace hs := hs.front 5 rfl
                replace hs := hs.front 5 rfl
                replace hs := hs.front 5 rfl
                replace hs := hs.front 5 rfl
                replace hs := hs.take 4
                exact L.ret hf (run_results1 Tryz.results39 (ResIs.tmp hf rfl)) ⟨y7, (m ++ [(⟨x4, y3, y4, y6⟩ : Material)]), A3, C1, s_, s_A, s_C, rfl, h, hs⟩
              · replace h := h.2 hc
                refine S.skip hf rfl rfl rfl (fun a hf => ?_)
                refine S.val hf hs (v := .bool false) rfl rfl rfl (V.pure rfl) (fun a hf => ?_)
                refine S.val hf hs (v := .bool false) rfl rfl rfl (V.pure rfl) (fun a hf => ?_)
                refine R.nil ?_
                refine X.then_ ?_
                refine wp_ret ?_
                refine X.blk_ret ?_
                refine X.then_ret ?_
                replace hs := hs.front 5 rfl
                replace hs := hs.front 5 rfl
                replace hs := hs.front 5 rfl
                replace hs := hs.front 5 rfl
                replace hs := hs.take 4
                exact L.ret hf (run_results1 Tryz.results39 (ResIs.tmp hf rfl)) ⟨false, (m ++ [(⟨x4, y3, y4, y6⟩ : Material)]), A3, C1, s_, s_A, s_C, rfl, h, hs⟩
            · replace h := h.2 hc
              refine S.skip hf rfl rfl rfl (fun a hf => ?_)
              refine S.val hf hs (v := .bool false) rfl rfl rfl (V.pure rfl) (fun a hf => ?_)
              refine S.val hf hs (v := .bool false) rfl rfl rfl (V.pure rfl) (fun a hf => ?_)
              refine S.skip hf rfl rfl rfl (fun a hf => ?_)
              refine S.val hf hs (v := .bool false) rfl rfl rfl (V.pure rfl) (fun a hf => ?_)
              refine S.val hf hs (v := .bool false) rfl rfl rfl (V.pure rfl) (fun a hf => ?_)
              refine R.nil ?_
              refine X.then_ ?_
              refine wp_ret ?_
              refine X.blk_ret ?_
              refine X.then_ret ?_
              replace hs := hs.front 5 rfl
              replace hs := hs.front 5 rfl
              replace hs := hs.front 5 rfl
              replace hs := hs.front 5 rfl
              replace hs := hs.take 4
              exact L.ret hf (run_results1 Tryz.results39 (ResIs.tmp hf rfl)) ⟨false, (m ++ [(⟨x4, y3, y4, y6⟩ : Material)]), A3, C1, s_, s_A, s_C, rfl, h, hs⟩
      · replace h := h.2 hc
        refine wp_seq ?_
        refine C.cut (J := fun a w => ∃ (c2 : Bool), M_stack_readLine_k2 m s_ Q y1 c2 ∧ FrOk 120 [(1, .pointer (some ⟨s_g, 0, none⟩)), (7, .slice y1A y1.length y1C), (75, .bool c2)] a ∧ Sat w0 F0 [hown 9 y1A y1C y1, hbox mg 22 [.slice mA m.length mC], hown 29 mA mC m, hbox s_g 23 [.slice s_A s_.length s_C], hown 32 s_A s_C s_] w) ?_ ?_
        · rintro a w ⟨c2, h, hf, hs⟩
          unfold M_stack_readLine_k2 at h
          refine C.cond hf (b := c2) rfl (fun hc => ?_) (fun hc => ?_)
          · replace h := h.1 hc
            refine wp_seq ?_
            refine H.start (S := Sat w0 F0 [hown 9 y1A y1C y1, hbox mg 22 [.slice mA m.length mC], hown 29 mA mC m]) mo ?_
            replace hs := hs.drew
            refine H.val hf (hs.mask [true, true, true, false, false]) (v := .pointer (some ⟨s_g, 0, none⟩)) (i := 0) rfl rfl rfl rfl (by kernel_rfl) (by kernel_rfl) (by kernel_rfl) (V.pure rfl) (fun a hf => ?_)
            refine H.val hf (hs.mask [true, true, true, false, false]) (v := .pointer (some ⟨s_g, 0, none⟩)) (i := 1) rfl rfl rfl rfl (by kernel_rfl) (by kernel_rfl) (by kernel_rfl) (V.pure rfl) (fun a hf => ?_)
            refine H.val hf (hs.mask [true, true, true, false, false]) (v := .pointer (some ⟨s_g, 0, none⟩)) (i := 2) rfl rfl rfl rfl (by kernel_rfl) (by kernel_rfl) (by kernel_rfl) (V.pure rfl) (fun a hf => ?_)
            refine H.val hf (hs.mask [true, true, true, false, false]) (v := .slice y1A y1.length y1C) (i := 4) rfl rfl rfl rfl (by kernel_rfl) (by kernel_rfl) (by kernel_rfl) (V.pure rfl) (fun a hf => ?_)
            obtain ⟨h0x5, x5, hx5, h⟩ := h
            refine H.val hf (hs.mask [true, true, true, false, false]) (v := elemPtr y1A (1 * 1)) (i := 5) rfl rfl rfl rfl (by kernel_rfl) (by kernel_rfl) (by kernel_rfl) (V.index rfl rfl rfl Tryz.runUnderlying74 Tryz.sizeOf9 (hs.ownSome 0 rfl (lt_of_get hx5)) h0x5 (lt_of_get hx5) rfl) (fun a hf => ?_)
            refine H.val hf (hs.mask [true, true, true, false, false]) (v := .string (ba x5)) (i := 6) rfl rfl rfl rfl (by kernel_rfl) (by kernel_rfl) (by kernel_rfl) (V.loadOwn (off := 0) 0 rfl hx5 rfl rfl rfl Tryz.isAgg9 Tryz.sizeOf9 rfl rfl) (fun a hf => ?_)
            refine H.val hf (hs.mask [true, true, true, false, false]) (v := .slice y1A y1.length y1C) (i := 7) rfl rfl rfl rfl (by kernel_rfl) (by kernel_rfl) (by kernel_rfl) (V.pure rfl) (fun a hf => ?_)
            obtain ⟨h0x6, x6, hx6, h⟩ := h
            refine H.val hf (hs.mask [true, true, true, false, false]) (v := elemPtr y1A (2 * 1)) (i := 8) rfl rfl rfl rfl (by kernel_rfl) (by kernel_rfl) (by kernel_rfl) (V.index rfl rfl rfl Tryz.runUnderlying74 Tryz.sizeOf9 (hs.ownSome 0 rfl (lt_of_get hx6)) h0x6 (lt_of_get hx6) rfl) (fun a hf => ?_)
            refine H.val hf (hs.mask [true, true, true, false, false]) (v := .string (ba x6)) (i := 9) rfl rfl rfl rfl (by kernel_rfl) (by kernel_rfl) (by kernel_rfl) (V.loadOwn (off := 0) 0 rfl hx6 rfl rfl rfl Tryz.isAgg9 Tryz.sizeOf9 rfl rfl) (fun a hf => ?_)
            refine H.each2 (i0 := 3) (i1 := 10) rfl rfl (by kernel_rfl) ?_ ?_
            · refine S.val hf hs (v := .slice s_A s_.length s_C) rfl rfl rfl (V.loadBox 3 rfl rfl rfl Tryz.isAgg23 Tryz.sizeOf23 rfl rfl) (fun a hf => ?_)
              refine R.nil ?_
              refine X.then_ ?_
              refine ⟨(hs.mask [true, true, true, false, false]), ?_⟩
              refine H.one (i := 10) rfl (by kernel_rfl) ?_
              refine S.val hf hs (v := .agg #[.string (ba x5), .string (ba x6)]) rfl rfl rfl (V.build (places := #[(0, 1), (1, 1)]) rfl Tryz.zeroValue32 Tryz.runUnderlying32 (by intro w; simp [Tryz.sizeOf9]) rfl rfl) (fun a hf => ?_)
              refine R.nil ?_
              refine X.then_ ?_
              refine ⟨(hs.mask [true, true, true, false, false]), ?_⟩
              refine H.one (i := 11) rfl (by kernel_rfl) ?_
              refine S.build1 hf hs rfl rfl rfl (α := Layer) (⟨x5, x6⟩ : Layer) rfl rfl rfl Tryz.runUnderlying23 Tryz.sizeOf32 Tryz.zeroValue32 rfl (by decide) (fun A4 a w hf hs => ?_)
              refine R.nil ?_
              refine X.then_ ?_
              refine ⟨(hs.mask [false, true, true, true, false, false]), ?_⟩
              refine H.one (i := 12) rfl (by kernel_rfl) ?_
              obtain ⟨hroom, h⟩ := h
              refine S.appendCells 5 hf hs rfl rfl rfl rfl rfl rfl rfl Tryz.underlying23 info32 rfl hroom ((hs.ownView 0 rfl).some_ (i := 0) (by simp)) (hs.ownView 0 rfl) (fun A5 C2 a w hf hs => ?_)
              replace hs := hs.drop
              refine R.nil ?_
              refine X.then_ ?_
              refine ⟨(hs.mask [true, true, true, false, false]), ?_⟩
              refine H.val hf (hs.mask [true, true, true, false, false]) (v := .pointer (some ⟨s_g, 0, none⟩)) (i := 13) rfl rfl rfl rfl (by kernel_rfl) (by kernel_rfl) (by kernel_rfl) (V.pure rfl) (fun a hf => ?_)
              refine H.one (i := 14) rfl (by kernel_rfl) ?_
              refine S.storeBox 3 hf hs rfl rfl [.slice A5 (s_ ++ [(⟨x5, x6⟩ : Layer)]).length C2] [.slice A5 (s_ ++ [(⟨x5, x6⟩ : Layer)]).length C2] rfl rfl rfl rfl rfl Tryz.sizeOf23 rfl rfl rfl rfl (fun a w hf hs => ?_)
              refine R.nil ?_
              refine X.then_ ?_
              refine ⟨(hs.mask [true, true, true, false, false]), ?_⟩
              refine H.done (by kernel_rfl) ?_
              refine X.then_ ?_
              refine wp_seq ?_
              refine R.list ?_
              refine S.val hf hs (v := .bool true) rfl rfl rfl (V.pure rfl) (fun a hf => ?_)
              refine R.nil ?_
              refine X.then_ ?_
              refine wp_ret ?_
              refine X.blk_ret ?_
              refine X.then_ret ?_
              replace hs := hs.front 4 rfl
              replace hs := hs.front 4 rfl
              replace hs := hs.front 4 rfl
              replace hs := hs.front 4 rfl
              replace hs := hs.take 4
              exact L.ret hf (run_results1 Tryz.results39 (ResIs.tmp hf rfl)) ⟨true, m, mA, mC, (s_ ++ [(⟨x5, x6⟩ : Layer)]), A5, C2, rfl, h, hs⟩
            · refine S.val hf hs (v := .agg #[.string (ba x5), .string (ba x6)]) rfl rfl rfl (V.build (places := #[(0, 1), (1, 1)]) rfl Tryz.zeroValue32 Tryz.runUnderlying32 (by intro w; simp [Tryz.sizeOf9]) rfl rfl) (fun a hf => ?_)
              refine R.nil ?_
              refine X.then_ ?_
              refine ⟨(hs.mask [true, true, true, false, false]), ?_⟩
              refine H.each2 (i0 := 3) (i1 := 11) rfl rfl (by kernel_rfl) ?_ ?_
              · refine S.val hf hs (v := .slice s_A s_.length s_C) rfl rfl rfl (V.loadBox 3 rfl rfl rfl Tryz.isAgg23 Tryz.sizeOf23 rfl rfl) (fun a hf => ?_)
                refine R.nil ?_
                refine X.then_ ?_
                refine ⟨(hs.mask [true, true, true, false, false]), ?_⟩
                refine H.one (i := 11) rfl (by kernel_rfl) ?_
                refine S.build1 hf hs rfl rfl rfl (α := Layer) (⟨x5, x6⟩ : Layer) rfl rfl rfl Tryz.runUnderlying23 Tryz.sizeOf32 Tryz.zeroValue32 rfl (by decide) (fun A4 a w hf hs => ?_)
                refine R.nil ?_
                refine X.then_ ?_
                refine ⟨(hs.mask [false, true, true, true, false, false]), ?_⟩
                refine H.one (i := 12) rfl (by kernel_rfl) ?_
                obtain ⟨hroom, h⟩ := h
                refine S.appendCells 5 hf hs rfl rfl rfl rfl rfl rfl rfl Tryz.underlying23 info32 rfl hroom ((hs.ownView 0 rfl).some_ (i := 0) (by simp)) (hs.ownView 0 rfl) (fun A5 C2 a w hf hs => ?_)
                replace hs := hs.drop
                refine R.nil ?_
                refine X.then_ ?_
                refine ⟨(hs.mask [true, true, true, false, false]), ?_⟩
                refine H.val hf (hs.mask [true, true, true, false, false]) (v := .pointer (some ⟨s_g, 0, none⟩)) (i := 13) rfl rfl rfl rfl (by kernel_rfl) (by kernel_rfl) (by kernel_rfl) (V.pure rfl) (fun a hf => ?_)
                refine H.one (i := 14) rfl (by kernel_rfl) ?_
                refine S.storeBox 3 hf hs rfl rfl [.slice A5 (s_ ++ [(⟨x5, x6⟩ : Layer)]).length C2] [.slice A5 (s_ ++ [(⟨x5, x6⟩ : Layer)]).length C2] rfl rfl rfl rfl rfl Tryz.sizeOf23 rfl rfl rfl rfl (fun a w hf hs => ?_)
                refine R.nil ?_
                refine X.then_ ?_
                refine ⟨(hs.mask [true, true, true, false, false]), ?_⟩
                refine H.done (by kernel_rfl) ?_
                refine X.then_ ?_
                refine wp_seq ?_
                refine R.list ?_
                refine S.val hf hs (v := .bool true) rfl rfl rfl (V.pure rfl) (fun a hf => ?_)
                refine R.nil ?_
                refine X.then_ ?_
                refine wp_ret ?_
                refine X.blk_ret ?_
                refine X.then_ret ?_
                replace hs := hs.front 4 rfl
                replace hs := hs.front 4 rfl
                replace hs := hs.front 4 rfl
                replace hs := hs.front 4 rfl
                replace hs := hs.take 4
                exact L.ret hf (run_results1 Tryz.results39 (ResIs.tmp hf rfl)) ⟨true, m, mA, mC, (s_ ++ [(⟨x5, x6⟩ : Layer)]), A5, C2, rfl, h, hs⟩
              · refine S.build1 hf hs rfl rfl rfl (α := Layer) (⟨x5, x6⟩ : Layer) rfl rfl rfl Tryz.runUnderlying23 Tryz.sizeOf32 Tryz.zeroValue32 rfl (by decide) (fun A4 a w hf hs => ?_)
                refine R.nil ?_
                refine X.then_ ?_
                refine ⟨(hs.mask [false, true, true, true, false, false]), ?_⟩
                refine H.one (i := 3) rfl (by kernel_rfl) ?_
                refine S.val hf hs (v := .slice s_A s_.length s_C) rfl rfl rfl (V.loadBox 4 rfl rfl rfl Tryz.isAgg23 Tryz.sizeOf23 rfl rfl) (fun a hf => ?_)
                refine R.nil ?_
                refine X.then_ ?_
                refine ⟨(hs.mask [false, true, true, true, false, false]), ?_⟩
                refine H.one (i := 12) rfl (by kernel_rfl) ?_
                obtain ⟨hroom, h⟩ := h
                refine S.appendCells 5 hf hs rfl rfl rfl rfl rfl rfl rfl Tryz.underlying23 info32 rfl hroom ((hs.ownView 0 rfl).some_ (i := 0) (by simp)) (hs.ownView 0 rfl) (fun A5 C2 a w hf hs => ?_)
                replace hs := hs.drop
                refine R.nil ?_
                refine X.then_ ?_
                refine ⟨(hs.mask [true, true, true, false, false]), ?_⟩
                refine H.val hf (hs.mask [true, true, true, false, false]) (v := .pointer (some ⟨s_g, 0, none⟩)) (i := 13) rfl rfl rfl rfl (by kernel_rfl) (by kernel_rfl) (by kernel_rfl) (V.pure rfl) (fun a hf => ?_)
                refine H.one (i := 14) rfl (by kernel_rfl) ?_
                refine S.storeBox 3 hf hs rfl rfl [.slice A5 (s_ ++ [(⟨x5, x6⟩ : Layer)]).length C2] [.slice A5 (s_ ++ [(⟨x5, x6⟩ : Layer)]).length C2] rfl rfl rfl rfl rfl Tryz.sizeOf23 rfl rfl rfl rfl (fun a w hf hs => ?_)
                refine R.nil ?_
                refine X.then_ ?_
                refine ⟨(hs.mask [true, true, true, false, false]), ?_⟩
                refine H.done (by kernel_rfl) ?_
                refine X.then_ ?_
                refine wp_seq ?_
                refine R.list ?_
                refine S.val hf hs (v := .bool true) rfl rfl rfl (V.pure rfl) (fun a hf => ?_)
                refine R.nil ?_
                refine X.then_ ?_
                refine wp_ret ?_
                refine X.blk_ret ?_
                refine X.then_ret ?_
                replace hs := hs.front 4 rfl
                replace hs := hs.front 4 rfl
                replace hs := hs.front 4 rfl
                replace hs := hs.front 4 rfl
                replace hs := hs.take 4
                exact L.ret hf (run_results1 Tryz.results39 (ResIs.tmp hf rfl)) ⟨true, m, mA, mC, (s_ ++ [(⟨x5, x6⟩ : Layer)]), A5, C2, rfl, h, hs⟩
          · replace h := h.2 hc
            refine wp_seq ?_
            refine C.cut (J := fun a w => ∃ (c3 : Bool), M_stack_readLine_k3 m s_ Q y1 c3 ∧ FrOk 120 [(1, .pointer (some ⟨s_g, 0, none⟩)), (7, .slice y1A y1.length y1C), (99, .bool c3)] a ∧ Sat w0 F0 [hown 9 y1A y1C y1, hbox mg 22 [.slice mA m.length mC], hown 29 mA mC m, hbox s_g 23 [.slice s_A s_.length s_C], hown 32 s_A s_C s_] w) ?_ ?_
            · rintro a w ⟨c3, h, hf, hs⟩
              unfold M_stack_readLine_k3 at h
              refine C.cond hf (b := c3) rfl (fun hc => ?_) (fun hc => ?_)
              · replace h := h.1 hc
                refine wp_seq ?_
                refine H.start (S := Sat w0 F0 [hown 9 y1A y1C y1, hbox mg 22 [.slice mA m.length mC], hown 29 mA mC m]) mo ?_
                replace hs := hs.drew
                refine H.val hf (hs.mask [true, true, true, false, false]) (v := .pointer (some ⟨s_g, 0, none⟩)) (i := 0) rfl rfl rfl rfl (by kernel_rfl) (by kernel_rfl) (by kernel_rfl) (V.pure rfl) (fun a hf => ?_)
                refine H.val hf (hs.mask [true, true, true, false, false]) (v := .pointer (some ⟨s_g, 0, none⟩)) (i := 1) rfl rfl rfl rfl (by kernel_rfl) (by kernel_rfl) (by kernel_rfl) (V.pure rfl) (fun a hf => ?_)
                refine H.val hf (hs.mask [true, true, true, false, false]) (v := .pointer (some ⟨s_g, 0, none⟩)) (i := 2) rfl rfl rfl rfl (by kernel_rfl) (by kernel_rfl) (by kernel_rfl) (V.pure rfl) (fun a hf => ?_)
                refine H.val hf (hs.mask [true, true, true, false, false]) (v := .slice y1A y1.length y1C) (i := 4) rfl rfl rfl rfl (by kernel_rfl) (by kernel_rfl) (by kernel_rfl) (V.pure rfl) (fun a hf => ?_)
                obtain ⟨h0x7, x7, hx7, h⟩ := h
                refine H.val hf (hs.mask [true, true, true, false, false]) (v := elemPtr y1A (1 * 1)) (i := 5) rfl rfl rfl rfl (by kernel_rfl) (by kernel_rfl) (by kernel_rfl) (V.index rfl rfl rfl Tryz.runUnderlying74 Tryz.sizeOf9 (hs.ownSome 0 rfl (lt_of_get hx7)) h0x7 (lt_of_get hx7) rfl) (fun a hf => ?_)
                refine H.val hf (hs.mask [true, true, true, false, false]) (v := .string (ba x7)) (i := 6) rfl rfl rfl rfl (by kernel_rfl) (by kernel_rfl) (by kernel_rfl) (V.loadOwn (off := 0) 0 rfl hx7 rfl rfl rfl Tryz.isAgg9 Tryz.sizeOf9 rfl rfl) (fun a hf => ?_)
                refine H.each2 (i0 := 3) (i1 := 7) rfl rfl (by kernel_rfl) ?_ ?_
                · refine S.val hf hs (v := .slice s_A s_.length s_C) rfl rfl rfl (V.loadBox 3 rfl rfl rfl Tryz.isAgg23 Tryz.sizeOf23 rfl rfl) (fun a hf => ?_)
                  refine R.nil ?_
                  refine X.then_ ?_
                  refine ⟨(hs.mask [true, true, true, false, false]), ?_⟩
                  refine H.one (i := 7) rfl (by kernel_rfl) ?_
                  refine S.val hf hs (v := .agg #[.string (ba []), .string (ba x7)]) rfl rfl rfl (V.build (places := #[(0, 1), (1, 1)]) rfl Tryz.zeroValue32 Tryz.runUnderlying32 (by intro w; simp [Tryz.sizeOf9]) rfl rfl) (fun a hf => ?_)
                  refine R.nil ?_
                  refine X.then_ ?_
                  refine ⟨(hs.mask [true, true, true, false, false]), ?_⟩
                  refine H.one (i := 8) rfl (by kernel_rfl) ?_
                  refine S.build1 hf hs rfl rfl rfl (α := Layer) (⟨[], x7⟩ : Layer) rfl rfl rfl Tryz.runUnderlying23 Tryz.sizeOf32 Tryz.zeroValue32 rfl (by decide) (fun A6 a w hf hs => ?_)
                  refine R.nil ?_
                  refine X.then_ ?_
                  refine ⟨(hs.mask [false, true, true, true, false, false]), ?_⟩
                  refine H.one (i := 9) rfl (by kernel_rfl) ?_
                  obtain ⟨hroom, h⟩ := h
                  refine S.appendCells 5 hf hs rfl rfl rfl rfl rfl rfl rfl Tryz.underlying23 info32 rfl hroom ((hs.ownView 0 rfl).some_ (i := 0) (by simp)) (hs.ownView 0 rfl) (fun A7 C3 a w hf hs => ?_)
                  replace hs := hs.drop
                  refine R.nil ?_
                  refine X.then_ ?_
                  refine ⟨(hs.mask [true, true, true, false, false]), ?_⟩
                  refine H.val hf (hs.mask [true, true, true, false, false]) (v := .pointer (some ⟨s_g, 0, none⟩)) (i := 10) rfl rfl rfl rfl (by kernel_rfl) (by kernel_rfl) (by kernel_rfl) (V.pure rfl) (fun a hf => ?_)
                  refine H.one (i := 11) rfl (by kernel_rfl) ?_
                  refine S.storeBox 3 hf hs rfl rfl [.slice A7 (s_ ++ [(⟨[], x7⟩ : Layer)]).length C3] [.slice A7 (s_ ++ [(⟨[], x7⟩ : Layer)]).length C3] rfl rfl rfl rfl rfl Tryz.sizeOf23 rfl rfl rfl rfl (fun a w hf hs => ?_)
                  refine R.nil ?_
                  refine X.then_ ?_
                  refine ⟨(hs.mask [true, true, true, false, false]), ?_⟩
                  refine H.done (by kernel_rfl) ?_
                  refine X.then_ ?_
                  refine wp_seq ?_
                  refine R.list ?_
                  refine S.val hf hs (v := .bool true) rfl rfl rfl (V.pure rfl) (fun a hf => ?_)
                  refine R.nil ?_
                  refine X.then_ ?_
                  refine wp_ret ?_
                  refine X.blk_ret ?_
                  refine X.then_ret ?_
                  replace hs := hs.front 4 rfl
                  replace hs := hs.front 4 rfl
                  replace hs := hs.front 4 rfl
                  replace hs := hs.front 4 rfl
                  replace hs := hs.take 4
                  exact L.ret hf (run_results1 Tryz.results39 (ResIs.tmp hf rfl)) ⟨true, m, mA, mC, (s_ ++ [(⟨[], x7⟩ : Layer)]), A7, C3, rfl, h, hs⟩
                · refine S.val hf hs (v := .agg #[.string (ba []), .string (ba x7)]) rfl rfl rfl (V.build (places := #[(0, 1), (1, 1)]) rfl Tryz.zeroValue32 Tryz.runUnderlying32 (by intro w; simp [Tryz.sizeOf9]) rfl rfl) (fun a hf => ?_)
                  refine R.nil ?_
                  refine X.then_ ?_
                  refine ⟨(hs.mask [true, true, true, false, false]), ?_⟩
                  refine H.each2 (i0 := 3) (i1 := 8) rfl rfl (by kernel_rfl) ?_ ?_
                  · refine S.val hf hs (v := .slice s_A s_.length s_C) rfl rfl rfl (V.loadBox 3 rfl rfl rfl Tryz.isAgg23 Tryz.sizeOf23 rfl rfl) (fun a hf => ?_)
                    refine R.nil ?_
                    refine X.then_ ?_
                    refine ⟨(hs.mask [true, true, true, false, false]), ?_⟩
                    refine H.one (i := 8) rfl (by kernel_rfl) ?_
                    refine S.build1 hf hs rfl rfl rfl (α := Layer) (⟨[], x7⟩ : Layer) rfl rfl rfl Tryz.runUnderlying23 Tryz.sizeOf32 Tryz.zeroValue32 rfl (by decide) (fun A6 a w hf hs => ?_)
                    refine R.nil ?_
                    refine X.then_ ?_
                    refine ⟨(hs.mask [false, true, true, true, false, false]), ?_⟩
                    refine H.one (i := 9) rfl (by kernel_rfl) ?_
                    obtain ⟨hroom, h⟩ := h
                    refine S.appendCells 5 hf hs rfl rfl rfl rfl rfl rfl rfl Tryz.underlying23 info32 rfl hroom ((hs.ownView 0 rfl).some_ (i := 0) (by simp)) (hs.ownView 0 rfl) (fun A7 C3 a w hf hs => ?_)
                    replace hs := hs.drop
                    refine R.nil ?_
                    refine X.then_ ?_
                    refine ⟨(hs.mask [true, true, true, false, false]), ?_⟩
                    refine H.val hf (hs.mask [true, true, true, false, false]) (v := .pointer (some ⟨s_g, 0, none⟩)) (i := 10) rfl rfl rfl rfl (by kernel_rfl) (by kernel_rfl) (by kernel_rfl) (V.pure rfl) (fun a hf => ?_)
                    refine H.one (i := 11) rfl (by kernel_rfl) ?_
                    refine S.storeBox 3 hf hs rfl rfl [.slice A7 (s_ ++ [(⟨[], x7⟩ : Layer)]).length C3] [.slice A7 (s_ ++ [(⟨[], x7⟩ : Layer)]).length C3] rfl rfl rfl rfl rfl Tryz.sizeOf23 rfl rfl rfl rfl (fun a w hf hs => ?_)
                    refine R.nil ?_
                    refine X.then_ ?_
                    refine ⟨(hs.mask [true, true, true, false, false]), ?_⟩
                    refine H.done (by kernel_rfl) ?_
                    refine X.then_ ?_
                    refine wp_seq ?_
                    refine R.list ?_
                    refine S.val hf hs (v := .bool true) rfl rfl rfl (V.pure rfl) (fun a hf => ?_)
                    refine R.nil ?_
                    refine X.then_ ?_
                    refine wp_ret ?_
                    refine X.blk_ret ?_
                    refine X.then_ret ?_
                    replace hs := hs.front 4 rfl
                    replace hs := hs.front 4 rfl
                    replace hs := hs.front 4 rfl
                    replace hs := hs.front 4 rfl
                    replace hs := hs.take 4
                    exact L.ret hf (run_results1 Tryz.results39 (ResIs.tmp hf rfl)) ⟨true, m, mA, mC, (s_ ++ [(⟨[], x7⟩ : Layer)]), A7, C3, rfl, h, hs⟩
                  · refine S.build1 hf hs rfl rfl rfl (α := Layer) (⟨[], x7⟩ : Layer) rfl rfl rfl Tryz.runUnderlying23 Tryz.sizeOf32 Tryz.zeroValue32 rfl (by decide) (fun A6 a w hf hs => ?_)
                    refine R.nil ?_
                    refine X.then_ ?_
                    refine ⟨(hs.mask [false, true, true, true, false, false]), ?_⟩
                    refine H.one (i := 3) rfl (by kernel_rfl) ?_
                    refine S.val hf hs (v := .slice s_A s_.length s_C) rfl rfl rfl (V.loadBox 4 rfl rfl rfl Tryz.isAgg23 Tryz.sizeOf23 rfl rfl) (fun a hf => ?_)
                    refine R.nil ?_
                    refine X.then_ ?_
                    refine ⟨(hs.mask [false, true, true, true, false, false]), ?_⟩
                    refine H.one (i := 9) rfl (by kernel_rfl) ?_
                    obtain ⟨hroom, h⟩ := h
                    refine S.appendCells 5 hf hs rfl rfl rfl rfl rfl rfl rfl Tryz.underlying23 info32 rfl hroom ((hs.ownView 0 rfl).some_ (i := 0) (by simp)) (hs.ownView 0 rfl) (fun A7 C3 a w hf hs => ?_)
                    replace hs := hs.drop
                    refine R.nil ?_
                    refine X.then_ ?_
                    refine ⟨(hs.mask [true, true, true, false, false]), ?_⟩
                    refine H.val hf (hs.mask [true, true, true, false, false]) (v := .pointer (some ⟨s_g, 0, none⟩)) (i := 10) rfl rfl rfl rfl (by kernel_rfl) (by kernel_rfl) (by kernel_rfl) (V.pure rfl) (fun a hf => ?_)
                    refine H.one (i := 11) rfl (by kernel_rfl) ?_
                    refine S.storeBox 3 hf hs rfl rfl [.slice A7 (s_ ++ [(⟨[], x7⟩ : Layer)]).length C3] [.slice A7 (s_ ++ [(⟨[], x7⟩ : Layer)]).length C3] rfl rfl rfl rfl rfl Tryz.sizeOf23 rfl rfl rfl rfl (fun a w hf hs => ?_)
                    refine R.nil ?_
                    refine X.then_ ?_
                    refine ⟨(hs.mask [true, true, true, false, false]), ?_⟩
                    refine H.done (by kernel_rfl) ?_
                    refine X.then_ ?_
                    refine wp_seq ?_
                    refine R.list ?_
                    refine S.val hf hs (v := .bool true) rfl rfl rfl (V.pure rfl) (fun a hf => ?_)
                    refine R.nil ?_
                    refine X.then_ ?_
                    refine wp_ret ?_
                    refine X.blk_ret ?_
                    refine X.then_ret ?_
                    replace hs := hs.front 4 rfl
                    replace hs := hs.front 4 rfl
                    replace hs := hs.front 4 rfl
                    replace hs := hs.front 4 rfl
                    replace hs := hs.take 4
                    exact L.ret hf (run_results1 Tryz.results39 (ResIs.tmp hf rfl)) ⟨true, m, mA, mC, (s_ ++ [(⟨[], x7⟩ : Layer)]), A7, C3, rfl, h, hs⟩
              · replace h := h.2 hc
                refine wp_skip ?_
                refine X.blk ?_
                refine X.then_ ?_
                refine wp_seq ?_
                refine R.list ?_
                refine S.val hf hs (v := .bool false) rfl rfl rfl (V.pure rfl) (fun a hf => ?_)
                refine R.nil ?_
                refine X.then_ ?_
                refine wp_ret ?_
                replace hs := hs.front 4 rfl
                replace hs := hs.front 4 rfl
                replace hs := hs.front 4 rfl
                replace hs := hs.front 4 rfl
                replace hs := hs.take 4
                exact L.ret hf (run_results1 Tryz.results39 (ResIs.tmp hf rfl)) ⟨false, m, mA, mC, s_, s_A, s_C, rfl, h, hs⟩
            · skip
              refine R.list ?_
              refine S.val hf hs (v := .slice y1A y1.length y1C) rfl rfl rfl (V.pure rfl) (fun a hf => ?_)
              obtain ⟨h0x8, x8, hx8, h⟩ := h
              refine S.val hf hs (v := elemPtr y1A (0 * 1)) rfl rfl rfl (V.index rfl rfl rfl Tryz.runUnderlying74 Tryz.sizeOf9 (hs.ownSome 0 rfl (lt_of_get hx8)) h0x8 (lt_of_get hx8) rfl) (fun a hf => ?_)
              refine S.val hf hs (v := .string (ba x8)) rfl rfl rfl (V.loadOwn (off := 0) 0 rfl hx8 rfl rfl rfl Tryz.isAgg9 Tryz.sizeOf9 rfl rfl) (fun a hf => ?_)
              refine S.val hf hs (v := .bool (x8 == [108, 97, 121, 101, 114])) rfl rfl rfl (V.strCmp (x8 == [108, 97, 121, 101, 114]) rfl rfl rfl rfl) (fun a hf => ?_)
              refine S.split hf hs (b := x8 == [108, 97, 121, 101, 114]) rfl rfl rfl (V.pure rfl) (fun hc a hf => ?_) (fun hc a hf => ?_)
              · replace h := h.1 hc
                refine S.val hf hs (v := .slice y1A y1.length y1C) rfl rfl rfl (V.pure rfl) (fun a hf => ?_)
                refine S.val hf hs (v := .int .i64 (y1.length : Int)) rfl rfl rfl (V.len rfl rfl Tryz.runUnderlying74) (fun a hf => ?_)
                refine S.val hf hs (v := .bool ((y1.length : Int) == 2)) rfl rfl rfl (V.pure rfl) (fun a hf => ?_)
                refine S.val hf hs (v := .bool ((y1.length : Int) == 2)) rfl rfl rfl (V.pure rfl) (fun a hf => ?_)
                refine S.val hf hs (v := .bool ((y1.length : Int) == 2)) rfl rfl rfl (V.pure rfl) (fun a hf => ?_)
                refine R.nil ?_
                refine X.then_ ?_
                exact ⟨((y1.length : Int) == 2), h, (((hf.nil.cons (hf.get 99 _ rfl)).cons (hf.get 7 _ rfl)).cons (hf.get 1 _ rfl)), hs⟩
              · replace h := h.2 hc
                refine S.skip hf rfl rfl rfl (fun a hf => ?_)
                refine S.skip hf rfl rfl rfl (fun a hf => ?_)
                refine S.skip hf rfl rfl rfl (fun a hf => ?_)
                refine S.val hf hs (v := .bool false) rfl rfl rfl (V.pure rfl) (fun a hf => ?_)
                refine S.val hf hs (v := .bool false) rfl rfl rfl (V.pure rfl) (fun a hf => ?_)
                refine R.nil ?_
                refine X.then_ ?_
                exact ⟨false, h, (((hf.nil.cons (hf.get 99 _ rfl)).cons (hf.get 7 _ rfl)).cons (hf.get 1 _ rfl)), hs⟩
        · skip
          refine R.list ?_
          refine S.val hf hs (v := .slice y1A y1.length y1C) rfl rfl rfl (V.pure rfl) (fun a hf => ?_)
          obtain ⟨h0x9, x9, hx9, h⟩ := h
          refine S.val hf hs (v := elemPtr y1A (0 * 1)) rfl rfl rfl (V.index rfl rfl rfl Tryz.runUnderlying74 Tryz.sizeOf9 (hs.ownSome 0 rfl (lt_of_get hx9)) h0x9 (lt_of_get hx9) rfl) (fun a hf => ?_)
          refine S.val hf hs (v := .string (ba x9)) rfl rfl rfl (V.loadOwn (off := 0) 0 rfl hx9 rfl rfl rfl Tryz.isAgg9 Tryz.sizeOf9 rfl rfl) (fun a hf => ?_)
          refine S.val hf hs (v := .bool (x9 == [99, 111, 112, 112, 101, 114])) rfl rfl rfl (V.strCmp (x9 == [99, 111, 112, 112, 101, 114]) rfl rfl rfl rfl) (fun a hf => ?_)
          refine S.split hf hs (b := x9 == [99, 111, 112, 112, 101, 114]) rfl rfl rfl (V.pure rfl) (fun hc a hf => ?_) (fun hc a hf => ?_)
          · replace h := h.1 hc
            refine S.val hf hs (v := .slice y1A y1.length y1C) rfl rfl rfl (V.pure rfl) (fun a hf => ?_)
            refine S.val hf hs (v := .int .i64 (y1.length : Int)) rfl rfl rfl (V.len rfl rfl Tryz.runUnderlying74) (fun a hf => ?_)
            refine S.val hf hs (v := .bool ((y1.length : Int) == 3)) rfl rfl rfl (V.pure rfl) (fun a hf => ?_)
            refine S.val hf hs (v := .bool ((y1.length : Int) == 3)) rfl rfl rfl (V.pure rfl) (fun a hf => ?_)
            refine S.val hf hs (v := .bool ((y1.length : Int) == 3)) rfl rfl rfl (V.pure rfl) (fun a hf => ?_)
            refine R.nil ?_
            refine X.then_ ?_
            exact ⟨((y1.length : Int) == 3), h, (((hf.nil.cons (hf.get 75 _ rfl)).cons (hf.get 7 _ rfl)).cons (hf.get 1 _ rfl)), hs⟩
          · replace h := h.2 hc
            refine S.skip hf rfl rfl rfl (fun a hf => ?_)
            refine S.skip hf rfl rfl rfl (fun a hf => ?_)
            refine S.skip hf rfl rfl rfl (fun a hf => ?_)
            refine S.val hf hs (v := .bool false) rfl rfl rfl (V.pure rfl) (fun a hf => ?_)
            refine S.val hf hs (v := .bool false) rfl rfl rfl (V.pure rfl) (fun a hf => ?_)
            refine R.nil ?_
            refine X.then_ ?_
            exact ⟨false, h, (((hf.nil.cons (hf.get 75 _ rfl)).cons (hf.get 7 _ rfl)).cons (hf.get 1 _ rfl)), hs⟩
    · skip
      refine R.list ?_
      refine S.val hf hs (v := .slice y1A y1.length y1C) rfl rfl rfl (V.pure rfl) (fun a hf => ?_)
      obtain ⟨h0x10, x10, hx10, h⟩ := h
      refine S.val hf hs (v := elemPtr y1A (0 * 1)) rfl rfl rfl (V.index rfl rfl rfl Tryz.runUnderlying74 Tryz.sizeOf9 (hs.ownSome 0 rfl (lt_of_get hx10)) h0x10 (lt_of_get hx10) rfl) (fun a hf => ?_)
      refine S.val hf hs (v := .string (ba x10)) rfl rfl rfl (V.loadOwn (off := 0) 0 rfl hx10 rfl rfl rfl Tryz.isAgg9 Tryz.sizeOf9 rfl rfl) (fun a hf => ?_)
      refine S.val hf hs (v := .bool (x10 == [109, 97, 116, 101, 114, 105, 97, 108])) rfl rfl rfl (V.strCmp (x10 == [109, 97, 116, 101, 114, 105, 97, 108]) rfl rfl rfl rfl) (fun a hf => ?_)
      refine S.split hf hs (b := x10 == [109, 97, 116, 101, 114, 105, 97, 108]) rfl rfl rfl (V.pure rfl) (fun hc a hf => ?_) (fun hc a hf => ?_)
      · replace h := h.1 hc
        refine S.val hf hs (v := .slice y1A y1.length y1C) rfl rfl rfl (V.pure rfl) (fun a hf => ?_)
        refine S.val hf hs (v := .int .i64 (y1.length : Int)) rfl rfl rfl (V.len rfl rfl Tryz.runUnderlying74) (fun a hf => ?_)
        refine S.val hf hs (v := .bool ((y1.length : Int) == 5)) rfl rfl rfl (V.pure rfl) (fun a hf => ?_)
        refine S.val hf hs (v := .bool ((y1.length : Int) == 5)) rfl rfl rfl (V.pure rfl) (fun a hf => ?_)
        refine S.split hf hs (b := (y1.length : Int) == 5) rfl rfl rfl (V.pure rfl) (fun hc a hf => ?_) (fun hc a hf => ?_)
        · replace h := h.1 hc
          refine S.val hf hs (v := .pointer (some ⟨s_g, 0, none⟩)) rfl rfl rfl (V.pure rfl) (fun a hf => ?_)
          refine S.val hf hs (v := .pointer (some ⟨s_g, 0, none⟩)) rfl rfl rfl (V.pure rfl) (fun a hf => ?_)
          refine S.val hf hs (v := .slice s_A s_.length s_C) rfl rfl rfl (V.loadBox 3 rfl rfl rfl Tryz.isAgg23 Tryz.sizeOf23 rfl rfl) (fun a hf => ?_)
          refine S.val hf hs (v := .int .i64 (s_.length : Int)) rfl rfl rfl (V.len rfl rfl Tryz.runUnderlying23) (fun a hf => ?_)
          refine S.val hf hs (v := .bool ((s_.length : Int) == 0)) rfl rfl rfl (V.pure rfl) (fun a hf => ?_)
          refine S.val hf hs (v := .bool ((s_.length : Int) == 0)) rfl rfl rfl (V.pure rfl) (fun a hf => ?_)
          refine S.val hf hs (v := .bool ((s_.length : Int) == 0)) rfl rfl rfl (V.pure rfl) (fun a hf => ?_)
          refine R.nil ?_
          refine X.then_ ?_
          exact ⟨((s_.length : Int) == 0), h, ((((hf.nil.cons (hf.get 17 _ rfl)).cons (hf.get 7 _ rfl)).cons (hf.get 1 _ rfl)).cons (hf.get 0 _ rfl)), hs⟩
        · replace h := h.2 hc
          refine S.skip hf rfl rfl rfl (fun a hf => ?_)
          refine S.skip hf rfl rfl rfl (fun a hf => ?_)
          refine S.skip hf rfl rfl rfl (fun a hf => ?_)
          refine S.skip hf rfl rfl rfl (fun a hf => ?_)
          refine S.skip hf rfl rfl rfl (fun a hf => ?_)
          refine S.val hf hs (v := .bool false) rfl rfl rfl (V.pure rfl) (fun a hf => ?_)
          refine S.val hf hs (v := .bool false) rfl rfl rfl (V.pure rfl) (fun a hf => ?_)
          refine R.nil ?_
          refine X.then_ ?_
          exact ⟨false, h, ((((hf.nil.cons (hf.get 17 _ rfl)).cons (hf.get 7 _ rfl)).cons (hf.get 1 _ rfl)).cons (hf.get 0 _ rfl)), hs⟩
      · replace h := h.2 hc
        refine S.skip hf rfl rfl rfl (fun a hf => ?_)
        refine S.skip hf rfl rfl rfl (fun a hf => ?_)
        refine S.skip hf rfl rfl rfl (fun a hf => ?_)
        refine S.val hf hs (v := .bool false) rfl rfl rfl (V.pure rfl) (fun a hf => ?_)
        refine S.val hf hs (v := .bool false) rfl rfl rfl (V.pure rfl) (fun a hf => ?_)
        refine S.skip hf rfl rfl rfl (fun a hf => ?_)
        refine S.skip hf rfl rfl rfl (fun a hf => ?_)
        refine S.skip hf rfl rfl rfl (fun a hf => ?_)
        refine S.skip hf rfl rfl rfl (fun a hf => ?_)
        refine S.skip hf rfl rfl rfl (fun a hf => ?_)
        refine S.val hf hs (v := .bool false) rfl rfl rfl (V.pure rfl) (fun a hf => ?_)
        refine S.val hf hs (v := .bool false) rfl rfl rfl (V.pure rfl) (fun a hf => ?_)
        refine R.nil ?_
        refine X.then_ ?_
        exact ⟨false, h, ((((hf.nil.cons (hf.get 17 _ rfl)).cons (hf.get 7 _ rfl)).cons (hf.get 1 _ rfl)).cons (hf.get 0 _ rfl)), hs⟩

set_option linter.unusedVariables false
def M_stack_Read_k2 (Q : (List Material) → (List Layer) → Int → Int → Prop) (n2 : Int) (again1 : List Material → List Layer → Str → Int → Prop) (y2 : Str) (l5 : List Material) (l6 : List Layer) (c1 : Bool) : Prop :=
  cnd c1 (Q ([] : List Material) ([] : List Layer) n2 10) (again1 l5 l6 y2 (w64 (n2 + 1)))
def M_stack_Read_L1 (Q : (List Material) → (List Layer) → Int → Int → Prop) (again1 : List Material → List Layer → Str → Int → Prop) (l3 : List Material) (l4 : List Layer) (s2 : Str) (n2 : Int) : Prop :=
  cnd (!(s2 == [])) (M_strings_Cut s2 [10] fun y1 y2 y3 => cnd (!y3) (M_stack_Read_k2 Q n2 again1 y2 l3 l4 true) (M_stack_readLine l3 l4 y1 fun y4 z1 z2 => M_stack_Read_k2 Q n2 again1 y2 z1 z2 (!y4))) (M_stack_CheckStack l3 l4 fun y5 => cnd (y5 != 0) (Q ([] : List Material) ([] : List Layer) 0 y5) (Q l3 l4 0 0))
def M_stack_Read (text : Str) (Q : (List Material) → (List Layer) → Int → Int → Prop) : Prop :=
  cnd (decide ((text.length : Int) > 50000)) (Q ([] : List Material) ([] : List Layer) 0 2) (lp (fun again (s : List Material × List Layer × Str × Int) => M_stack_Read_L1 Q (fun l3 l4 s2 n2 => again (l3, l4, s2, n2)) s.1 s.2.1 s.2.2.1 s.2.2.2) (([] : List Material), (([] : List Layer)), text, 1))
set_option maxHeartbeats 1000000 in
theorem R_stack_Read (text : Str) (w0 : World)  (Q : (List Material) → (List Layer) → Int → Int → Prop) (h : M_stack_Read text Q) :
    Ret Tryz.prog 11 #[.string (ba text)] w0 fun v w' => ∃ (r0 : (List Material)) (r0A : Option Addr) (r0C : Nat) (r1 : (List Layer)) (r1A : Option Addr) (r1C : Nat) (r2 : Int) (r3 : Int), v = .tuple #[.slice r0A r0.length r0C, .slice r1A r1.length r1C, .int .i64 r2, .int .i64 r3] ∧ Q r0 r1 r2 r3 ∧ Sat w0 none_ [hown 29 r0A r0C r0, hown 32 r1A r1C r1] w' := by
  refine fn_enter Tryz.func11 rfl Tryz.ntmps11 rfl (fs := [(0, .string (ba text))]) rfl (fun a hf => ?_)
  have hs := Sat.start w0 none_
  unfold M_stack_Read at h
  refine wp_seq ?_
  refine R.list ?_
  refine S.val hf hs (v := .slice none 0 0) rfl rfl rfl (V.pure rfl) (fun a hf => ?_)
  refine S.val hf hs (v := .slice none 0 0) rfl rfl rfl (V.pure rfl) (fun a hf => ?_)
  refine S.val hf hs (v := .int .i64 0) rfl rfl rfl (V.pure rfl) (fun a hf => ?_)
  refine S.val hf hs (v := .int .i64 0) rfl rfl rfl (V.pure rfl) (fun a hf => ?_)
  refine R.nil ?_
  refine X.then_ ?_
  refine wp_seq ?_
  refine wp_seq ?_
  refine R.list ?_
  refine S.val hf hs (v := .string (ba text)) rfl rfl rfl (V.pure rfl) (fun a hf => ?_)
  refine S.val hf hs (v := .int .i64 (text.length : Int)) rfl rfl rfl (V.lenStr rfl rfl Tryz.runUnderlying9) (fun a hf => ?_)
  refine S.val hf hs (v := .bool (decide ((text.length : Int) > 50000))) rfl rfl rfl (V.pure rfl) (fun a hf => ?_)
  refine R.nil ?_
  refine X.then_ ?_
  refine C.cond hf (b := decide ((text.length : Int) > 50000)) rfl (fun hc => ?_) (fun hc => ?_)
  · replace h := h.1 hc
    refine wp_seq ?_
    refine R.list ?_
    refine S.val hf hs (v := .slice none 0 0) rfl rfl rfl (V.pure rfl) (fun a hf => ?_)
    refine S.val hf hs (v := .slice none 0 0) rfl rfl rfl (V.pure rfl) (fun a hf => ?_)
    refine S.val hf hs (v := .int .i64 0) rfl rfl rfl (V.pure rfl) (fun a hf => ?_)
    refine S.val hf hs (v := .int .i64 2) rfl rfl rfl (V.pure rfl) (fun a hf => ?_)
    refine R.nil ?_
    refine X.then_ ?_
    refine wp_ret ?_
    refine X.then_ret ?_
    replace hs := hs.nilOwn (α := Material) 29
    replace hs := hs.nilOwn (α := Layer) 32
    replace hs := hs.front 1 rfl
    replace hs := hs.take 2
    exact L.ret hf (run_results4 Tryz.results11 (ResIs.tmp hf rfl) (ResIs.tmp hf rfl) (ResIs.tmp hf rfl) (ResIs.tmp hf rfl)) ⟨([] : List Material), none, 0, ([] : List Layer), none, 0, 0, 2, rfl, h, hs⟩
  · replace h := h.2 hc
    refine wp_skip ?_
    refine X.then_ ?_
    refine wp_seq ?_
    refine R.list ?_
    refine S.alloc hf hs rfl rfl rfl [.slice none 0 0] rfl Tryz.zeroValue22 rfl (fun g1 a w hf hs => ?_)
    refine R.nil ?_
    refine X.then_ ?_
    refine wp_seq ?_
    refine R.list ?_
    refine S.alloc hf hs rfl rfl rfl [.slice none 0 0] rfl Tryz.zeroValue23 rfl (fun g2 a w hf hs => ?_)
    refine R.nil ?_
    refine X.then_ ?_
    refine wp_seq ?_
    refine wp_seq ?_
    refine R.list ?_
    refine S.val hf hs (v := .int .i64 1) rfl rfl rfl (V.pure rfl) (fun a hf => ?_)
    refine R.nil ?_
    refine X.then_ ?_
    refine wp_block ?_
    replace hs := hs.nilOwn (α := Material) 29
    replace hs := hs.rebox 2 (vs' := [.slice none ([] : List Material).length 0]) rfl rfl
    replace hs := hs.nilOwn (α := Layer) 32
    replace hs := hs.rebox 2 (vs' := [.slice none (([] : List Layer)).length 0]) rfl rfl
    replace hs := hs.front 2 rfl
    replace hs := hs.front 2 rfl
    replace hs := hs.front 3 rfl
    obtain ⟨kk, h⟩ := h
    refine C.loop (fun kk a w => ∃ (l3 : List Material) (l3A : Option Addr) (l3C : Nat) (l4 : List Layer) (l4A : Option Addr) (l4C : Nat) (s2 : Str) (n2 : Int), iterF (fun again (s : List Material × List Layer × Str × Int) => M_stack_Read_L1 Q (fun l3 l4 s2 n2 => again (l3, l4, s2, n2)) s.1 s.2.1 s.2.2.1 s.2.2.2) kk (l3, l4, s2, n2) ∧ FrOk 43 [(0, .string (ba s2)), (6, .pointer (some ⟨g1, 0, none⟩)), (7, .pointer (some ⟨g2, 0, none⟩)), (8, .int .i64 n2)] a ∧ Sat w0 none_ [hbox g1 22 [.slice l3A l3.length l3C], hown 29 l3A l3C l3, hbox g2 23 [.slice l4A l4.length l4C], hown 32 l4A l4C l4] w) kk ⟨([] : List Material), none, 0, (([] : List Layer)), none, 0, text, 1, h, ((((hf.nil.cons (hf.get 8 _ rfl)).cons (hf.get 7 _ rfl)).cons (hf.get 6 _ rfl)).cons (hf.get 0 _ rfl)), hs⟩ (fun a w ⟨_, _, _, _, _, _, _, _, h, _, _⟩ => h) ?_
    clear h hf hs
    rintro kk a w ⟨l3, l3A, l3C, l4, l4A, l4C, s2, n2, h, hf, hs⟩
    obtain ⟨again1, hagain1⟩ : ∃ X : List Material → List Layer → Str → Int → Prop, X = (fun l3 l4 s2 n2 => iterF (fun again (s : List Material × List Layer × Str × Int) => M_stack_Read_L1 Q (fun l3 l4 s2 n2 => again (l3, l4, s2, n2)) s.1 s.2.1 s.2.2.1 s.2.2.2) kk (l3, l4, s2, n2)) := ⟨_, rfl⟩
    replace h : M_stack_Read_L1 Q again1 l3 l4 s2 n2 := by rw [hagain1]; exact h
    unfold M_stack_Read_L1 at h
    refine wp_seq ?_
    refine wp_seq ?_
    refine R.list ?_
    refine S.val hf hs (v := .string (ba s2)) rfl rfl rfl (V.pure rfl) (fun a hf => ?_)
    refine S.val hf hs (v := .bool (!(s2 == []))) rfl rfl rfl (V.strCmp (!(s2 == [])) rfl rfl rfl rfl) (fun a hf => ?_)
    refine R.nil ?_
    refine X.then_ ?_
    refine C.cond hf (b := !(s2 == [])) rfl (fun hc => ?_) (fun hc => ?_)
    · replace h := h.1 hc
      refine wp_skip ?_
      refine X.then_ ?_
      refine wp_seq ?_
      refine wp_block ?_
      refine wp_seq ?_
      refine R.list ?_
      refine S.val hf hs (v := .string (ba s2)) rfl rfl rfl (V.pure rfl) (fun a hf => ?_)
      refine S.call hf rfl rfl rfl (call_fn (vs := [.string (ba s2), .string (ba [10])]) rfl rfl rfl Tryz.call38) (R_strings_Cut s2 [10] _  _ h) (fun v a w' hf hr => ?_)
      obtain ⟨y1, y2, y3, rfl, h2, hs2⟩ := hr
      replace h := h2; replace hs := hs.call hs2; clear h2 hs2
      refine S.val hf hs (v := .tuple #[.string (ba y1), .string (ba y2), .bool y3]) rfl rfl rfl (V.pure rfl) (fun a hf => ?_)
      refine S.val hf hs (v := .string (ba y1)) rfl rfl rfl (V.pure rfl) (fun a hf => ?_)
      refine S.val hf hs (v := .string (ba y2)) rfl rfl rfl (V.pure rfl) (fun a hf => ?_)
      refine S.val hf hs (v := .bool y3) rfl rfl rfl (V.pure rfl) (fun a hf => ?_)
      refine S.val hf hs (v := .string (ba y1)) rfl rfl rfl (V.pure rfl) (fun a hf => ?_)
      refine S.val hf hs (v := .string (ba y2)) rfl rfl rfl (V.pure rfl) (fun a hf => ?_)
      refine S.val hf hs (v := .bool y3) rfl rfl rfl (V.pure rfl) (fun a hf => ?_)
      refine R.nil ?_
      refine X.then_ ?_
      refine wp_seq ?_
      refine wp_seq ?_
      refine C.cut (J := fun a w => ∃ (l5 : List Material) (l5A : Option Addr) (l5C : Nat) (l6 : List Layer) (l6A : Option Addr) (l6C : Nat) (c1 : Bool), M_stack_Read_k2 Q n2 again1 y2 l5 l6 c1 ∧ FrOk 43 [(6, .pointer (some ⟨g1, 0, none⟩)), (7, .pointer (some ⟨g2, 0, none⟩)), (8, .int .i64 n2), (10, .string (ba y2)), (32, .bool c1)] a ∧ Sat w0 none_ [hbox g1 22 [.slice l5A l5.length l5C], hown 29 l5A l5C l5, hbox g2 23 [.slice l6A l6.length l6C], hown 32 l6A l6C l6] w) ?_ ?_
      · rintro a w ⟨l5, l5A, l5C, l6, l6A, l6C, c1, h, hf, hs⟩
        unfold M_stack_Read_k2 at h
        refine C.cond hf (b := c1) rfl (fun hc => ?_) (fun hc => ?_)
        · replace h := h.1 hc
          refine wp_seq ?_
          refine R.list ?_
          refine S.val hf hs (v := .int .i64 n2) rfl rfl rfl (V.pure rfl) (fun a hf => ?_)
          refine S.val hf hs (v := .slice none 0 0) rfl rfl rfl (V.pure rfl) (fun a hf => ?_)
          refine S.val hf hs (v := .slice none 0 0) rfl rfl rfl (V.pure rfl) (fun a hf => ?_)
          refine S.val hf hs (v := .int .i64 n2) rfl rfl rfl (V.pure rfl) (fun a hf => ?_)
          refine S.val hf hs (v := .int .i64 10) rfl rfl rfl (V.pure rfl) (fun a hf => ?_)
          refine R.nil ?_
          refine X.then_ ?_
          refine wp_ret ?_
          refine X.then_ret ?_
          refine X.blk_ret ?_
          refine X.then_ret ?_
          refine X.then_ret ?_
          refine X.blk_ret ?_
          refine X.then_ret ?_
          replace hs := hs.nilOwn (α := Material) 29
          replace hs := hs.nilOwn (α := Layer) 32
          replace hs := hs.front 1 rfl
          replace hs := hs.take 2
          exact L.ret hf (run_results4 Tryz.results11 (ResIs.tmp hf rfl) (ResIs.tmp hf rfl) (ResIs.tmp hf rfl) (ResIs.tmp hf rfl)) ⟨([] : List Material), none, 0, ([] : List Layer), none, 0, n2, 10, rfl, h, hs⟩
        · replace h := h.2 hc
          refine wp_skip ?_
          refine X.then_ ?_
          refine R.list ?_
          refine S.val hf hs (v := .string (ba y2)) rfl rfl rfl (V.pure rfl) (fun a hf => ?_)
          refine S.val hf hs (v := .string (ba y2)) rfl rfl rfl (V.pure rfl) (fun a hf => ?_)
          refine R.nil ?_
          refine X.blk ?_
          refine X.then_ ?_
          refine R.list ?_
          refine S.val hf hs (v := .int .i64 n2) rfl rfl rfl (V.pure rfl) (fun a hf => ?_)
          refine S.val hf hs (v := .int .i64 (w64 (n2 + 1))) rfl rfl rfl (V.pure rfl) (fun a hf => ?_)
          refine S.val hf hs (v := .int .i64 (w64 (n2 + 1))) rfl rfl rfl (V.pure rfl) (fun a hf => ?_)
          refine R.nil ?_
          refine X.then_ ?_
          exact ⟨l5, l5A, l5C, l6, l6A, l6C, y2, (w64 (n2 + 1)), (by rw [hagain1] at h; exact h), ((((hf.nil.cons (hf.get 8 _ rfl)).cons (hf.get 7 _ rfl)).cons (hf.get 6 _ rfl)).cons (hf.get 0 _ rfl)), hs⟩
      · skip
        refine R.list ?_
        refine S.val hf hs (v := .bool y3) rfl rfl rfl (V.pure rfl) (fun a hf => ?_)
        refine S.val hf hs (v := .bool (!y3)) rfl rfl rfl (V.pure rfl) (fun a hf => ?_)
        refine S.split hf hs (b := !y3) rfl rfl rfl (V.pure rfl) (fun hc a hf => ?_) (fun hc a hf => ?_)
        · replace h := h.1 hc
          refine S.skip hf rfl rfl rfl (fun a hf => ?_)
          refine S.skip hf rfl rfl rfl (fun a hf => ?_)
          refine S.skip hf rfl rfl rfl (fun a hf => ?_)
          refine S.val hf hs (v := .bool true) rfl rfl rfl (V.pure rfl) (fun a hf => ?_)
          refine R.nil ?_
          refine X.then_ ?_
          exact ⟨l3, l3A, l3C, l4, l4A, l4C, true, h, (((((hf.nil.cons (hf.get 32 _ rfl)).cons (hf.get 10 _ rfl)).cons (hf.get 8 _ rfl)).cons (hf.get 7 _ rfl)).cons (hf.get 6 _ rfl)), hs⟩
        · replace h := h.2 hc
          refine S.val hf hs (v := .string (ba y1)) rfl rfl rfl (V.pure rfl) (fun a hf => ?_)
          replace hs := hs.front 3 rfl
          replace hs := hs.front 3 rfl
          replace hs := hs.front 3 rfl
          replace hs := hs.front 3 rfl
          obtain ⟨F1, hsF, hback, hold, hrest⟩ := Sat.callOwns [hbox g1 22 [.slice l3A l3.length l3C], hown 29 l3A l3C l3, hbox g2 23 [.slice l4A l4.length l4C], hown 32 l4A l4C l4] (σ := []) hs
          refine S.call hf rfl rfl rfl (call_fn (vs := [.pointer (some ⟨g1, 0, none⟩), .pointer (some ⟨g2, 0, none⟩), .string (ba y1)]) rfl rfl rfl Tryz.call39) (R_stack_readLine l3 l4 y1 _ _ g1 l3A l3C g2 l4A l4C hsF _ h) (fun v a w' hf hr => ?_)
          obtain ⟨y4, z1, z1A, z1C, z2, z2A, z2C, rfl, h2, hs2⟩ := hr
          replace h := h2; replace hs := hback _ _ hs2; clear h2 hs2 hback hold hrest hsF
          refine S.val hf hs (v := .bool (!y4)) rfl rfl rfl (V.pure rfl) (fun a hf => ?_)
          refine S.val hf hs (v := .bool (!y4)) rfl rfl rfl (V.pure rfl) (fun a hf => ?_)
          refine R.nil ?_
          refine X.then_ ?_
          exact ⟨z1, z1A, z1C, z2, z2A, z2C, (!y4), h, (((((hf.nil.cons (hf.get 32 _ rfl)).cons (hf.get 10 _ rfl)).cons (hf.get 8 _ rfl)).cons (hf.get 7 _ rfl)).cons (hf.get 6 _ rfl)), hs⟩
    · replace h := h.2 hc
      refine wp_exit ?_
      refine X.then_exit ?_
      refine X.then_exit ?_
      refine X.blk_exit ?_
      refine X.then_ ?_
      refine wp_seq ?_
      refine wp_seq ?_
      refine R.list ?_
      refine S.val hf hs (v := .slice l3A l3.length l3C) rfl rfl rfl (V.loadBox 0 rfl rfl rfl Tryz.isAgg22 Tryz.sizeOf22 rfl rfl) (fun a hf => ?_)
      refine S.val hf hs (v := .slice l4A l4.length l4C) rfl rfl rfl (V.loadBox 2 rfl rfl rfl Tryz.isAgg23 Tryz.sizeOf23 rfl rfl) (fun a hf => ?_)
      refine S.call hf rfl rfl rfl (call_fn (vs := [.slice l3A l3.length l3C, .slice l4A l4.length l4C]) rfl rfl rfl Tryz.call40) (R_stack_CheckStack l3 l4 _ l3A l3C (hs.ownView 1 rfl) l4A l4C (hs.ownView 3 rfl) _ h) (fun v a w' hf hr => ?_)
      obtain ⟨y5, rfl, h2, hs2⟩ := hr
      replace h := h2; replace hs := hs.call hs2; clear h2 hs2
      refine S.val hf hs (v := .int .i64 y5) rfl rfl rfl (V.pure rfl) (fun a hf => ?_)
      refine R.nil ?_
      refine X.then_ ?_
      refine wp_seq ?_
      refine R.list ?_
      refine S.val hf hs (v := .int .i64 y5) rfl rfl rfl (V.pure rfl) (fun a hf => ?_)
      refine S.val hf hs (v := .bool (y5 != 0)) rfl rfl rfl (V.pure rfl) (fun a hf => ?_)
      refine R.nil ?_
      refine X.then_ ?_
      refine C.cond hf (b := y5 != 0) rfl (fun hc => ?_) (fun hc => ?_)
      · replace h := h.1 hc
        refine wp_seq ?_
        refine R.list ?_
        refine S.val hf hs (v := .int .i64 y5) rfl rfl rfl (V.pure rfl) (fun a hf => ?_)
        refine S.val hf hs (v := .slice none 0 0) rfl rfl rfl (V.pure rfl) (fun a hf => ?_)
        refine S.val hf hs (v := .slice none 0 0) rfl rfl rfl (V.pure rfl) (fun a hf => ?_)
        refine S.val hf hs (v := .int .i64 0) rfl rfl rfl (V.pure rfl) (fun a hf => ?_)
        refine S.val hf hs (v := .int .i64 y5) rfl rfl rfl (V.pure rfl) (fun a hf => ?_)
        refine R.nil ?_
        refine X.then_ ?_
        refine wp_ret ?_
        refine X.then_ret ?_
        replace hs := hs.nilOwn (α := Material) 29
        replace hs := hs.nilOwn (α := Layer) 32
        replace hs := hs.front 1 rfl
        replace hs := hs.take 2
        exact L.ret hf (run_results4 Tryz.results11 (ResIs.tmp hf rfl) (ResIs.tmp hf rfl) (ResIs.tmp hf rfl) (ResIs.tmp hf rfl)) ⟨([] : List Material), none, 0, ([] : List Layer), none, 0, 0, y5, rfl, h, hs⟩
      · replace h := h.2 hc
        refine wp_skip ?_
        refine X.then_ ?_
        refine wp_seq ?_
        refine R.draw mo (by kernel_rfl) hs ?_
        refine D.val hf (v := .slice l3A l3.length l3C) rfl rfl rfl (V.loadBox 0 rfl rfl rfl Tryz.isAgg22 Tryz.sizeOf22 rfl rfl) (fun a hf => ?_)
        refine D.val hf (v := .slice l4A l4.length l4C) rfl rfl rfl (V.loadBox 2 rfl rfl rfl Tryz.isAgg23 Tryz.sizeOf23 rfl rfl) (fun a hf => ?_)
        refine D.val hf (v := .slice l3A l3.length l3C) rfl rfl rfl (V.pure rfl) (fun a hf => ?_)
        refine D.val hf (v := .slice l4A l4.length l4C) rfl rfl rfl (V.pure rfl) (fun a hf => ?_)
        refine D.val hf (v := .int .i64 0) rfl rfl rfl (V.pure rfl) (fun a hf => ?_)
        refine D.val hf (v := .int .i64 0) rfl rfl rfl (V.pure rfl) (fun a hf => ?_)
        refine D.done (fun w hs => ?_)
        refine X.then_ ?_
        refine wp_ret ?_
        replace hs := hs.front 3 rfl
        replace hs := hs.front 2 rfl
        replace hs := hs.take 2
        exact L.ret hf (run_results4 Tryz.results11 (ResIs.tmp hf rfl) (ResIs.tmp hf rfl) (ResIs.tmp hf rfl) (ResIs.tmp hf rfl)) ⟨l3, l3A, l3C, l4, l4A, l4C, 0, 0, rfl, h, hs⟩

set_option linter.unusedVariables false
def M_ref4_number_k1 (s_ : Str) (Q : Int → Bool → Prop) (c1 : Bool) : Prop :=
  cnd c1 (Q 0 false) (M_strconv_Atoi s_ fun y1 y2 => Q y1 true)
def M_ref4_number (s_ : Str) (Q : Int → Bool → Prop) : Prop :=
  cnd (s_ == []) (M_ref4_number_k1 s_ Q true) (cnd (decide ((s_.length : Int) > 9)) (M_ref4_number_k1 s_ Q true) (cnd (decide ((s_.length : Int) > 1)) (idx s_ 0 fun x1 => cnd ((x1.toNat : Int) == 48) (M_ref4_number_k1 s_ Q true) (M_strings_Trim s_ [48, 49, 50, 51, 52, 53, 54, 55, 56, 57] fun y3 => M_ref4_number_k1 s_ Q (!(y3 == [])))) (M_strings_Trim s_ [48, 49, 50, 51, 52, 53, 54, 55, 56, 57] fun y4 => M_ref4_number_k1 s_ Q (!(y4 == [])))))
set_option maxHeartbeats 1000000 in
theorem R_ref4_number (s_ : Str) (w0 : World)  (Q : Int → Bool → Prop) (h : M_ref4_number s_ Q) :
    Ret Tryz.prog 92 #[.string (ba s_)] w0 fun v w' => ∃ (r0 : Int) (r1 : Bool), v = .tuple #[.int .i64 r0, .bool r1] ∧ Q r0 r1 ∧ Sat w0 none_ [] w' := by
  refine fn_enter Tryz.func92 rfl Tryz.ntmps92 rfl (fs := [(0, .string (ba s_))]) rfl (fun a hf => ?_)
  have hs := Sat.start w0 none_
  unfold M_ref4_number at h
  refine wp_seq ?_
  refine R.list ?_
  refine S.val hf hs (v := .int .i64 0) rfl rfl rfl (V.pure rfl) (fun a hf => ?_)
  refine S.val hf hs (v := .bool false) rfl rfl rfl (V.pure rfl) (fun a hf => ?_)
  refine R.nil ?_
  refine X.then_ ?_
  refine wp_seq ?_
  refine wp_seq ?_
  refine C.cut (J := fun a w => ∃ (c1 : Bool), M_ref4_number_k1 s_ Q c1 ∧ FrOk 34 [(0, .string (ba s_)), (27, .bool c1)] a ∧ Sat w0 none_ [] w) ?_ ?_
  · rintro a w ⟨c1, h, hf, hs⟩
    unfold M_ref4_number_k1 at h
    refine C.cond hf (b := c1) rfl (fun hc => ?_) (fun hc => ?_)
    · replace h := h.1 hc
      refine wp_seq ?_
      refine R.list ?_
      refine S.val hf hs (v := .int .i64 0) rfl rfl rfl (V.pure rfl) (fun a hf => ?_)
      refine S.val hf hs (v := .bool false) rfl rfl rfl (V.pure rfl) (fun a hf => ?_)
      refine R.nil ?_
      refine X.then_ ?_
      refine wp_ret ?_
      refine X.then_ret ?_
      exact L.ret hf (run_results2 Tryz.results92 (ResIs.tmp hf rfl) (ResIs.tmp hf rfl)) ⟨0, false, rfl, h, hs.nil⟩
    · replace h := h.2 hc
      refine wp_skip ?_
      refine X.then_ ?_
      refine wp_seq ?_
      refine R.list ?_
      refine S.val hf hs (v := .string (ba s_)) rfl rfl rfl (V.pure rfl) (fun a hf => ?_)
      refine S.call hf rfl rfl rfl (call_fn (vs := [.string (ba s_)]) rfl rfl rfl Tryz.call143) (R_strconv_Atoi s_ _  _ h) (fun v a w' hf hr => ?_)
      obtain ⟨y1, y2, rfl, h2, hs2⟩ := hr
      replace h := h2; replace hs := hs.call hs2; clear h2 hs2
      refine S.val hf hs (v := .tuple #[.int .i64 y1, .nilIface]) rfl rfl rfl (V.pure rfl) (fun a hf => ?_)
      refine S.val hf hs (v := .int .i64 y1) rfl rfl rfl (V.pure rfl) (fun a hf => ?_)
      refine S.val hf hs (v := .nilIface) rfl rfl rfl (V.pure rfl) (fun a hf => ?_)
      refine S.val hf hs (v := .int .i64 y1) rfl rfl rfl (V.pure rfl) (fun a hf => ?_)
      refine S.val hf hs (v := .nilIface) rfl rfl rfl (V.pure rfl) (fun a hf => ?_)
      refine R.nil ?_
      refine X.then_ ?_
      refine wp_seq ?_
      refine R.list ?_
      refine S.val hf hs (v := .int .i64 y1) rfl rfl rfl (V.pure rfl) (fun a hf => ?_)
      refine S.val hf hs (v := .int .i64 y1) rfl rfl rfl (V.pure rfl) (fun a hf => ?_)
      refine S.val hf hs (v := .bool true) rfl rfl rfl (V.pure rfl) (fun a hf => ?_)
      refine R.nil ?_
      refine X.then_ ?_
      refine wp_ret ?_
      exact L.ret hf (run_results2 Tryz.results92 (ResIs.tmp hf rfl) (ResIs.tmp hf rfl)) ⟨y1, true, rfl, h, hs.nil⟩
  · skip
    refine R.list ?_
    refine S.val hf hs (v := .string (ba s_)) rfl rfl rfl (V.pure rfl) (fun a hf => ?_)
    refine S.val hf hs (v := .bool (s_ == [])) rfl rfl rfl (V.strCmp (s_ == []) rfl rfl rfl rfl) (fun a hf => ?_)
    refine S.split hf hs (b := s_ == []) rfl rfl rfl (V.pure rfl) (fun hc a hf => ?_) (fun hc a hf => ?_)
    · replace h := h.1 hc
      refine S.skip hf rfl rfl rfl (fun a hf => ?_)
      refine S.skip hf rfl rfl rfl (fun a hf => ?_)
      refine S.skip hf rfl rfl rfl (fun a hf => ?_)
      refine S.val hf hs (v := .bool true) rfl rfl rfl (V.pure rfl) (fun a hf => ?_)
      refine S.val hf hs (v := .bool true) rfl rfl rfl (V.pure rfl) (fun a hf => ?_)
      refine S.skip hf rfl rfl rfl (fun a hf => ?_)
      refine S.skip hf rfl rfl rfl (fun a hf => ?_)
      refine S.skip hf rfl rfl rfl (fun a hf => ?_)
      refine S.skip hf rfl rfl rfl (fun a hf => ?_)
      refine S.skip hf rfl rfl rfl (fun a hf => ?_)
      refine S.skip hf rfl rfl rfl (fun a hf => ?_)
      refine S.skip hf rfl rfl rfl (fun a hf => ?_)
      refine S.skip hf rfl rfl rfl (fun a hf => ?_)
      refine S.val hf hs (v := .bool true) rfl rfl rfl (V.pure rfl) (fun a hf => ?_)
      refine S.val hf hs (v := .bool true) rfl rfl rfl (V.pure rfl) (fun a hf => ?_)
      refine S.skip hf rfl rfl rfl (fun a hf => ?_)
      refine S.skip hf rfl rfl rfl (fun a hf => ?_)
      refine S.skip hf rfl rfl rfl (fun a hf => ?_)
      refine S.val hf hs (v := .bool true) rfl rfl rfl (V.pure rfl) (fun a hf => ?_)
      refine R.nil ?_
      refine X.then_ ?_
      exact ⟨true, h, ((hf.nil.cons (hf.get 27 _ rfl)).cons (hf.get 0 _ rfl)), hs⟩
    · replace h := h.2 hc
      refine S.val hf hs (v := .string (ba s_)) rfl rfl rfl (V.pure rfl) (fun a hf => ?_)
      refine S.val hf hs (v := .int .i64 (s_.length : Int)) rfl rfl rfl (V.lenStr rfl rfl Tryz.runUnderlying9) (fun a hf => ?_)
      refine S.val hf hs (v := .bool (decide ((s_.length : Int) > 9))) rfl rfl rfl (V.pure rfl) (fun a hf => ?_)
      refine S.val hf hs (v := .bool (decide ((s_.length : Int) > 9))) rfl rfl rfl (V.pure rfl) (fun a hf => ?_)
      refine S.split hf hs (b := decide ((s_.length : Int) > 9)) rfl rfl rfl (V.pure rfl) (fun hc a hf => ?_) (fun hc a hf => ?_)
      · replace h := h.1 hc
        refine S.skip hf rfl rfl rfl (fun a hf => ?_)
        refine S.skip hf rfl rfl rfl (fun a hf => ?_)
        refine S.skip hf rfl rfl rfl (fun a hf => ?_)
        refine S.skip hf rfl rfl rfl (fun a hf => ?_)
        refine S.skip hf rfl rfl rfl (fun a hf => ?_)
        refine S.skip hf rfl rfl rfl (fun a hf => ?_)
        refine S.skip hf rfl rfl rfl (fun a hf => ?_)
        refine S.skip hf rfl rfl rfl (fun a hf => ?_)
        refine S.val hf hs (v := .bool true) rfl rfl rfl (V.pure rfl) (fun a hf => ?_)
        refine S.val hf hs (v := .bool true) rfl rfl rfl (V.pure rfl) (fun a hf => ?_)
        refine S.skip hf rfl rfl rfl (fun a hf => ?_)
        refine S.skip hf rfl rfl rfl (fun a hf => ?_)
        refine S.skip hf rfl rfl rfl (fun a hf => ?_)
        refine S.val hf hs (v := .bool true) rfl rfl rfl (V.pure rfl) (fun a hf => ?_)
        refine R.nil ?_
        refine X.then_ ?_
        exact ⟨true, h, ((hf.nil.cons (hf.get 27 _ rfl)).cons (hf.get 0 _ rfl)), hs⟩
      · replace h := h.2 hc
        refine S.val hf hs (v := .string (ba s_)) rfl rfl rfl (V.pure rfl) (fun a hf => ?_)
        refine S.val hf hs (v := .int .i64 (s_.length : Int)) rfl rfl rfl (V.lenStr rfl rfl Tryz.runUnderlying9) (fun a hf => ?_)
        refine S.val hf hs (v := .bool (decide ((s_.length : Int) > 1))) rfl rfl rfl (V.pure rfl) (fun a hf => ?_)
        refine S.split hf hs (b := decide ((s_.length : Int) > 1)) rfl rfl rfl (V.pure rfl) (fun hc a hf => ?_) (fun hc a hf => ?_)
        · replace h := h.1 hc
          refine S.val hf hs (v := .string (ba s_)) rfl rfl rfl (V.pure rfl) (fun a hf => ?_)
          obtain ⟨h0x1, x1, hx1, h⟩ := h
          refine S.val hf hs (v := .int .u8 (x1.toNat : Int)) rfl rfl rfl (V.indexStr rfl rfl rfl Tryz.runUnderlying9 h0x1 hx1) (fun a hf => ?_)
          refine S.val hf hs (v := .bool ((x1.toNat : Int) == 48)) rfl rfl rfl (V.pure rfl) (fun a hf => ?_)
          refine S.val hf hs (v := .bool ((x1.toNat : Int) == 48)) rfl rfl rfl (V.pure rfl) (fun a hf => ?_)
          refine S.val hf hs (v := .bool ((x1.toNat : Int) == 48)) rfl rfl rfl (V.pure rfl) (fun a hf => ?_)
          refine S.split hf hs (b := (x1.toNat : Int) == 48) rfl rfl rfl (V.pure rfl) (fun hc a hf => ?_) (fun hc a hf => ?_)
          · replace h := h.1 hc
            refine S.skip hf rfl rfl rfl (fun a hf => ?_)
            refine S.skip hf rfl rfl rfl (fun a hf => ?_)
            refine S.skip hf rfl rfl rfl (fun a hf => ?_)
            refine S.val hf hs (v := .bool true) rfl rfl rfl (V.pure rfl) (fun a hf => ?_)
            refine R.nil ?_
            refine X.then_ ?_
            exact ⟨true, h, ((hf.nil.cons (hf.get 27 _ rfl)).cons (hf.get 0 _ rfl)), hs⟩
          · replace h := h.2 hc
            refine S.val hf hs (v := .string (ba s_)) rfl rfl rfl (V.pure rfl) (fun a hf => ?_)
            refine S.call hf rfl rfl rfl (call_fn (vs := [.string (ba s_), .string (ba [48, 49, 50, 51, 52, 53, 54, 55, 56, 57])]) rfl rfl rfl Tryz.call142) (R_strings_Trim s_ [48, 49, 50, 51, 52, 53, 54, 55, 56, 57] _  _ h) (fun v a w' hf hr => ?_)
            obtain ⟨y3, rfl, h2, hs2⟩ := hr
            replace h := h2; replace hs := hs.call hs2; clear h2 hs2
            refine S.val hf hs (v := .bool (!(y3 == []))) rfl rfl rfl (V.strCmp (!(y3 == [])) rfl rfl rfl rfl) (fun a hf => ?_)
            refine S.val hf hs (v := .bool (!(y3 == []))) rfl rfl rfl (V.pure rfl) (fun a hf => ?_)
            refine R.nil ?_
            refine X.then_ ?_
            exact ⟨(!(y3 == [])), h, ((hf.nil.cons (hf.get 27 _ rfl)).cons (hf.get 0 _ rfl)), hs⟩
        · replace h := h.2 hc
          refine S.skip hf rfl rfl rfl (fun a hf => ?_)
          refine S.skip hf rfl rfl rfl (fun a hf => ?_)
          refine S.skip hf rfl rfl rfl (fun a hf => ?_)
          refine S.val hf hs (v := .bool false) rfl rfl rfl (V.pure rfl) (fun a hf => ?_)
          refine S.val hf hs (v := .bool false) rfl rfl rfl (V.pure rfl) (fun a hf => ?_)
          refine S.val hf hs (v := .bool false) rfl rfl rfl (V.pure rfl) (fun a hf => ?_)
          refine S.val hf hs (v := .string (ba s_)) rfl rfl rfl (V.pure rfl) (fun a hf => ?_)
          refine S.call hf rfl rfl rfl (call_fn (vs := [.string (ba s_), .string (ba [48, 49, 50, 51, 52, 53, 54, 55, 56, 57])]) rfl rfl rfl Tryz.call142) (R_strings_Trim s_ [48, 49, 50, 51, 52, 53, 54, 55, 56, 57] _  _ h) (fun v a w' hf hr => ?_)
          obtain ⟨y4, rfl, h2, hs2⟩ := hr
          replace h := h2; replace hs := hs.call hs2; clear h2 hs2
          refine S.val hf hs (v := .bool (!(y4 == []))) rfl rfl rfl (V.strCmp (!(y4 == [])) rfl rfl rfl rfl) (fun a hf => ?_)
          refine S.val hf hs (v := .bool (!(y4 == []))) rfl rfl rfl (V.pure rfl) (fun a hf => ?_)
          refine R.nil ?_
          refine X.then_ ?_
          exact ⟨(!(y4 == [])), h, ((hf.nil.cons (hf.get 27 _ rfl)).cons (hf.get 0 _ rfl)), hs⟩

set_option linter.unusedVariables false
def M_ref4_isRow_k2 (Q : Bool → Prop) (n2 : Int) (again1 : Int → Prop) (c1 : Bool) : Prop :=
  cnd c1 (Q false) (again1 (w64 (n2 + 1)))
def M_ref4_isRow_L1 (s_ : Str) (Q : Bool → Prop) (again1 : Int → Prop) (n2 : Int) : Prop :=
  cnd (decide (n2 < (s_.length : Int))) (idx s_ n2 fun x1 => cnd (decide ((x1.toNat : Int) < 33)) (M_ref4_isRow_k2 Q n2 again1 true) (M_ref4_isRow_k2 Q n2 again1 (decide ((x1.toNat : Int) > 126)))) (Q (!(s_ == [])))
def M_ref4_isRow (s_ : Str) (Q : Bool → Prop) : Prop :=
  lp (fun again (s : Int) => M_ref4_isRow_L1 s_ Q (fun n2 => again n2) s) 0
set_option maxHeartbeats 1000000 in
theorem R_ref4_isRow (s_ : Str) (w0 : World)  (Q : Bool → Prop) (h : M_ref4_isRow s_ Q) :
    Ret Tryz.prog 91 #[.string (ba s_)] w0 fun v w' => ∃ (r0 : Bool), v = .bool r0 ∧ Q r0 ∧ Sat w0 none_ [] w' := by
  refine fn_enter Tryz.func91 rfl Tryz.ntmps91 rfl (fs := [(0, .string (ba s_))]) rfl (fun a hf => ?_)
  have hs := Sat.start w0 none_
  unfold M_ref4_isRow at h
  refine wp_seq ?_
  refine R.list ?_
  refine S.val hf hs (v := .bool false) rfl rfl rfl (V.pure rfl) (fun a hf => ?_)
  refine R.nil ?_
  refine X.then_ ?_
  refine wp_seq ?_
  refine wp_seq ?_
  refine R.list ?_
  refine S.val hf hs (v := .string (ba s_)) rfl rfl rfl (V.pure rfl) (fun a hf => ?_)
  refine S.val hf hs (v := .int .i64 (s_.length : Int)) rfl rfl rfl (V.lenStr rfl rfl Tryz.runUnderlying9) (fun a hf => ?_)
  refine S.val hf hs (v := .int .i64 0) rfl rfl rfl (V.pure rfl) (fun a hf => ?_)
  refine R.nil ?_
  refine X.then_ ?_
  refine wp_block ?_
  obtain ⟨kk, h⟩ := h
  refine C.loop (fun kk a w => ∃ (n2 : Int), iterF (fun again (s : Int) => M_ref4_isRow_L1 s_ Q (fun n2 => again n2) s) kk n2 ∧ FrOk 22 [(0, .string (ba s_)), (5, .int .i64 (s_.length : Int)), (6, .int .i64 n2)] a ∧ Sat w0 none_ [] w) kk ⟨0, h, (((hf.nil.cons (hf.get 6 _ rfl)).cons (hf.get 5 _ rfl)).cons (hf.get 0 _ rfl)), hs⟩ (fun a w ⟨_, h, _, _⟩ => h) ?_
  clear h hf hs
  rintro kk a w ⟨n2, h, hf, hs⟩
  obtain ⟨again1, hagain1⟩ : ∃ X : Int → Prop, X = (fun n2 => iterF (fun again (s : Int) => M_ref4_isRow_L1 s_ Q (fun n2 => again n2) s) kk n2) := ⟨_, rfl⟩
  replace h : M_ref4_isRow_L1 s_ Q again1 n2 := by rw [hagain1]; exact h
  unfold M_ref4_isRow_L1 at h
  refine wp_seq ?_
  refine R.list ?_
  refine S.val hf hs (v := .bool (decide (n2 < (s_.length : Int)))) rfl rfl rfl (V.pure rfl) (fun a hf => ?_)
  refine R.nil ?_
  refine X.then_ ?_
  refine wp_seq ?_
  refine C.cond hf (b := decide (n2 < (s_.length : Int))) rfl (fun hc => ?_) (fun hc => ?_)
  · replace h := h.1 hc
    refine wp_skip ?_
    refine X.then_ ?_
    refine wp_seq ?_
    refine wp_block ?_
    refine wp_seq ?_
    refine R.list ?_
    refine S.val hf hs (v := .int .i64 n2) rfl rfl rfl (V.pure rfl) (fun a hf => ?_)
    refine S.val hf hs (v := .int .i64 n2) rfl rfl rfl (V.pure rfl) (fun a hf => ?_)
    refine R.nil ?_
    refine X.then_ ?_
    refine wp_seq ?_
    refine C.cut (J := fun a w => ∃ (c1 : Bool), M_ref4_isRow_k2 Q n2 again1 c1 ∧ FrOk 22 [(0, .string (ba s_)), (5, .int .i64 (s_.length : Int)), (6, .int .i64 n2), (18, .bool c1)] a ∧ Sat w0 none_ [] w) ?_ ?_
    · rintro a w ⟨c1, h, hf, hs⟩
      unfold M_ref4_isRow_k2 at h
      refine C.cond hf (b := c1) rfl (fun hc => ?_) (fun hc => ?_)
      · replace h := h.1 hc
        refine wp_seq ?_
        refine R.list ?_
        refine S.val hf hs (v := .bool false) rfl rfl rfl (V.pure rfl) (fun a hf => ?_)
        refine R.nil ?_
        refine X.then_ ?_
        refine wp_ret ?_
        refine X.blk_ret ?_
        refine X.then_ret ?_
        refine X.then_ret ?_
        refine X.blk_ret ?_
        refine X.then_ret ?_
        exact L.ret hf (run_results1 Tryz.results91 (ResIs.tmp hf rfl)) ⟨false, rfl, h, hs.nil⟩
      · replace h := h.2 hc
        refine wp_skip ?_
        refine X.blk ?_
        refine X.then_ ?_
        refine R.list ?_
        refine S.val hf hs (v := .int .i64 (w64 (n2 + 1))) rfl rfl rfl (V.pure rfl) (fun a hf => ?_)
        refine S.val hf hs (v := .int .i64 (w64 (n2 + 1))) rfl rfl rfl (V.pure rfl) (fun a hf => ?_)
        refine R.nil ?_
        refine X.then_ ?_
        exact ⟨(w64 (n2 + 1)), (by rw [hagain1] at h; exact h), (((hf.nil.cons (hf.get 6 _ rfl)).cons (hf.get 5 _ rfl)).cons (hf.get 0 _ rfl)), hs⟩
    · skip
      refine R.list ?_
      refine S.val hf hs (v := .string (ba s_)) rfl rfl rfl (V.pure rfl) (fun a hf => ?_)
      refine S.val hf hs (v := .int .i64 n2) rfl rfl rfl (V.pure rfl) (fun a hf => ?_)
      obtain ⟨h0x1, x1, hx1, h⟩ := h
      refine S.val hf hs (v := .int .u8 (x1.toNat : Int)) rfl rfl rfl (V.indexStr rfl rfl rfl Tryz.runUnderlying9 h0x1 hx1) (fun a hf => ?_)
      refine S.val hf hs (v := .bool (decide ((x1.toNat : Int) < 33))) rfl rfl rfl (V.pure rfl) (fun a hf => ?_)
      refine S.split hf hs (b := decide ((x1.toNat : Int) < 33)) rfl rfl rfl (V.pure rfl) (fun hc a hf => ?_) (fun hc a hf => ?_)
      · replace h := h.1 hc
        refine S.skip hf rfl rfl rfl (fun a hf => ?_)
        refine S.skip hf rfl rfl rfl (fun a hf => ?_)
        refine S.skip hf rfl rfl rfl (fun a hf => ?_)
        refine S.skip hf rfl rfl rfl (fun a hf => ?_)
        refine S.val hf hs (v := .bool true) rfl rfl rfl (V.pure rfl) (fun a hf => ?_)
        refine R.nil ?_
        refine X.then_ ?_
        exact ⟨true, h, ((((hf.nil.cons (hf.get 18 _ rfl)).cons (hf.get 6 _ rfl)).cons (hf.get 5 _ rfl)).cons (hf.get 0 _ rfl)), hs⟩
      · replace h := h.2 hc
        refine S.val hf hs (v := .string (ba s_)) rfl rfl rfl (V.pure rfl) (fun a hf => ?_)
        refine S.val hf hs (v := .int .i64 n2) rfl rfl rfl (V.pure rfl) (fun a hf => ?_)
        refine S.val hf hs (v := .int .u8 (x1.toNat : Int)) rfl rfl rfl (V.indexStr rfl rfl rfl Tryz.runUnderlying9 h0x1 hx1) (fun a hf => ?_)
        refine S.val hf hs (v := .bool (decide ((x1.toNat : Int) > 126))) rfl rfl rfl (V.pure rfl) (fun a hf => ?_)
        refine S.val hf hs (v := .bool (decide ((x1.toNat : Int) > 126))) rfl rfl rfl (V.pure rfl) (fun a hf => ?_)
        refine R.nil ?_
        refine X.then_ ?_
        exact ⟨(decide ((x1.toNat : Int) > 126)), h, ((((hf.nil.cons (hf.get 18 _ rfl)).cons (hf.get 6 _ rfl)).cons (hf.get 5 _ rfl)).cons (hf.get 0 _ rfl)), hs⟩
  · replace h := h.2 hc
    refine wp_exit ?_
    refine X.then_exit ?_
    refine X.then_exit ?_
    refine X.blk_exit ?_
    refine X.then_ ?_
    refine wp_seq ?_
    refine R.list ?_
    refine S.val hf hs (v := .string (ba s_)) rfl rfl rfl (V.pure rfl) (fun a hf => ?_)
    refine S.val hf hs (v := .bool (!(s_ == []))) rfl rfl rfl (V.strCmp (!(s_ == [])) rfl rfl rfl rfl) (fun a hf => ?_)
    refine S.val hf hs (v := .bool (!(s_ == []))) rfl rfl rfl (V.pure rfl) (fun a hf => ?_)
    refine R.nil ?_
    refine X.then_ ?_
    refine wp_ret ?_
    exact L.ret hf (run_results1 Tryz.results91 (ResIs.tmp hf rfl)) ⟨(!(s_ == [])), rfl, h, hs.nil⟩

set_option linter.unusedVariables false
def M_ref4_readMaterial_k1 (w_ : (List Str)) (Q : Material → Bool → Prop) (c1 : Bool) : Prop :=
  cnd c1 (Q (⟨[], 0, 0, 0⟩ : Material) false) (idx w_ 2 fun x1 => M_strings_Split [99, 111, 112, 112, 101, 114, 32, 99, 111, 114, 101, 32, 103, 108, 117, 101] [32] fun y1 => M_index_str y1 x1 fun y2 => idx w_ 3 fun x2 => M_ref4_number x2 fun y3 y4 => idx w_ 4 fun x3 => M_ref4_number x3 fun y5 y6 => idx w_ 1 fun x4 => cnd (decide (w64 (y2 + 1) > 0)) (cnd y4 (Q (⟨x4, w64 (y2 + 1), y3, y5⟩ : Material) y6) (Q (⟨x4, w64 (y2 + 1), y3, y5⟩ : Material) false)) (Q (⟨x4, w64 (y2 + 1), y3, y5⟩ : Material) false))
def M_ref4_readMaterial (w_ : (List Str)) (Q : Material → Bool → Prop) : Prop :=
  cnd ((w_.length : Int) != 5) (M_ref4_readMaterial_k1 w_ Q true) (idx w_ 1 fun x5 => M_ref4_isRow x5 fun y7 => M_ref4_readMaterial_k1 w_ Q (!y7))
set_option maxHeartbeats 1000000 in
theorem R_ref4_readMaterial (w_ : (List Str)) (w0 : World) (w_A : Option Addr) (w_C : Nat) (hv_w_ : View w0 (old w0 none_) w_A w_C w_) (Q : Material → Bool → Prop) (h : M_ref4_readMaterial w_ Q) :
    Ret Tryz.prog 42 #[.slice w_A w_.length w_C] w0 fun v w' => ∃ (r0 : Material) (r1 : Bool), v = .tuple #[.agg #[.string (ba r0.Name), .int .i64 r0.Kind, .int .i64 r0.Thick, .int .i64 r0.Grow], .bool r1] ∧ Q r0 r1 ∧ Sat w0 none_ [] w' := by
  refine fn_enter Tryz.func42 rfl Tryz.ntmps42 rfl (fs := [(0, .slice w_A w_.length w_C)]) rfl (fun a hf => ?_)
  have hs := Sat.start w0 none_
  unfold M_ref4_readMaterial at h
  refine wp_seq ?_
  refine R.list ?_
  refine S.alloc hf hs rfl rfl rfl [.string (ba []), .int .i64 0, .int .i64 0, .int .i64 0] rfl Tryz.zeroValue29 rfl (fun g1 a w hf hs => ?_)
  refine S.val hf hs (v := .bool false) rfl rfl rfl (V.pure rfl) (fun a hf => ?_)
  refine R.nil ?_
  refine X.then_ ?_
  refine wp_seq ?_
  refine wp_seq ?_
  refine C.cut (J := fun a w => ∃ (c1 : Bool), M_ref4_readMaterial_k1 w_ Q c1 ∧ FrOk 55 [(0, .slice w_A w_.length w_C), (2, .pointer (some ⟨g1, 0, none⟩)), (18, .bool c1)] a ∧ Sat w0 none_ [hbox g1 29 [.string (ba []), .int .i64 0, .int .i64 0, .int .i64 0]] w) ?_ ?_
  · rintro a w ⟨c1, h, hf, hs⟩
    unfold M_ref4_readMaterial_k1 at h
    refine C.cond hf (b := c1) rfl (fun hc => ?_) (fun hc => ?_)
    · replace h := h.1 hc
      refine wp_seq ?_
      refine R.list ?_
      refine S.val hf hs (v := .agg #[.string (ba []), .int .i64 0, .int .i64 0, .int .i64 0]) rfl rfl rfl (V.build (places := #[(0, 1), (1, 1), (2, 1), (3, 1)]) rfl Tryz.zeroValue29 Tryz.runUnderlying29 (by intro w; simp [Tryz.sizeOf3, Tryz.sizeOf9]) rfl rfl) (fun a hf => ?_)
      refine S.storeBox 0 hf hs rfl rfl [.string (ba []), .int .i64 0, .int .i64 0, .int .i64 0] [.string (ba []), .int .i64 0, .int .i64 0, .int .i64 0] rfl rfl rfl rfl rfl Tryz.sizeOf29 rfl rfl rfl rfl (fun a w hf hs => ?_)
      refine S.val hf hs (v := .bool false) rfl rfl rfl (V.pure rfl) (fun a hf => ?_)
      refine R.nil ?_
      refine X.then_ ?_
      refine wp_ret ?_
      refine X.then_ret ?_
      exact L.ret hf (run_results2 Tryz.results42 (ResIs.box hf hs 0 rfl rfl Tryz.isAgg29 Tryz.sizeOf29 rfl rfl) (ResIs.tmp hf rfl)) ⟨(⟨[], 0, 0, 0⟩ : Material), false, rfl, h, hs.nil⟩
    · replace h := h.2 hc
      refine wp_skip ?_
      refine X.then_ ?_
      refine wp_seq ?_
      refine H.start (S := Sat w0 none_ [hbox g1 29 [.string (ba []), .int .i64 0, .int .i64 0, .int .i64 0]]) mo ?_
      replace hs := hs.drew
      refine H.val hf hs (v := .slice w_A w_.length w_C) (i := 1) rfl rfl rfl rfl (by kernel_rfl) (by kernel_rfl) (by kernel_rfl) (V.pure rfl) (fun a hf => ?_)
      obtain ⟨h0x1, x1, hx1, h⟩ := h
      refine H.val hf hs (v := elemPtr w_A (2 * 1)) (i := 2) rfl rfl rfl rfl (by kernel_rfl) (by kernel_rfl) (by kernel_rfl) (V.index rfl rfl rfl Tryz.runUnderlying74 Tryz.sizeOf9 (hv_w_.some_ (lt_of_get hx1)) h0x1 (lt_of_get hx1) rfl) (fun a hf => ?_)
      refine H.val hf hs (v := .string (ba x1)) (i := 3) rfl rfl rfl rfl (by kernel_rfl) (by kernel_rfl) (by kernel_rfl) (V.loadEl (off := 0) (Ag.args _ _ _) (hv_w_.flat hx1) rfl rfl rfl Tryz.isAgg9 Tryz.sizeOf9 rfl rfl) (fun a hf => ?_)
      refine H.one (i := 0) rfl (by kernel_rfl) ?_
      refine S.call hf rfl rfl rfl (call_fn (vs := [.string (ba [99, 111, 112, 112, 101, 114, 32, 99, 111, 114, 101, 32, 103, 108, 117, 101]), .string (ba [32])]) rfl rfl rfl Tryz.call41) (R_strings_Split [99, 111, 112, 112, 101, 114, 32, 99, 111, 114, 101, 32, 103, 108, 117, 101] [32] _  _ h) (fun v a w' hf hr => ?_)
      obtain ⟨y1, y1A, y1C, rfl, h2, hs2⟩ := hr
      replace h := h2; replace hs := hs.call hs2; clear h2 hs2
      refine R.nil ?_
      refine X.then_ ?_
      refine ⟨(hs.mask [false, true]), ?_⟩
      refine H.one (i := 4) rfl (by kernel_rfl) ?_
      refine S.call hf rfl rfl rfl (call_fn (vs := [.slice y1A y1.length y1C, .string (ba x1)]) rfl rfl rfl Tryz.call83) (R_index_str y1 x1 _ y1A y1C (hs.ownView 0 rfl) _ h) (fun v a w' hf hr => ?_)
      obtain ⟨y2, rfl, h2, hs2⟩ := hr
      replace h := h2; replace hs := hs.call hs2; clear h2 hs2
      refine R.nil ?_
      refine X.then_ ?_
      refine ⟨(hs.mask [false, true]), ?_⟩
      refine H.val hf (hs.mask [false, true]) (v := .int .i64 (w64 (y2 + 1))) (i := 5) rfl rfl rfl rfl (by kernel_rfl) (by kernel_rfl) (by kernel_rfl) (V.pure rfl) (fun a hf => ?_)
      refine H.val hf (hs.mask [false, true]) (v := .int .i64 (w64 (y2 + 1))) (i := 6) rfl rfl rfl rfl (by kernel_rfl) (by kernel_rfl) (by kernel_rfl) (V.pure rfl) (fun a hf => ?_)
      refine H.done (by kernel_rfl) ?_
      refine X.then_ ?_
      refine wp_seq ?_
      refine R.list ?_
      refine S.val hf hs (v := .slice w_A w_.length w_C) rfl rfl rfl (V.pure rfl) (fun a hf => ?_)
      obtain ⟨h0x2, x2, hx2, h⟩ := h
      refine S.val hf hs (v := elemPtr w_A (3 * 1)) rfl rfl rfl (V.index rfl rfl rfl Tryz.runUnderlying74 Tryz.sizeOf9 (hv_w_.some_ (lt_of_get hx2)) h0x2 (lt_of_get hx2) rfl) (fun a hf => ?_)
      refine S.val hf hs (v := .string (ba x2)) rfl rfl rfl (V.loadEl (off := 0) (Ag.args _ _ _) (hv_w_.flat hx2) rfl rfl rfl Tryz.isAgg9 Tryz.sizeOf9 rfl rfl) (fun a hf => ?_)
      refine S.call hf rfl rfl rfl (call_fn (vs := [.string (ba x2)]) rfl rfl rfl Tryz.call92) (R_ref4_number x2 _  _ h) (fun v a w' hf hr => ?_)
      obtain ⟨y3, y4, rfl, h2, hs2⟩ := hr
      replace h := h2; replace hs := hs.call hs2; clear h2 hs2
      refine S.val hf hs (v := .tuple #[.int .i64 y3, .bool y4]) rfl rfl rfl (V.pure rfl) (fun a hf => ?_)
      refine S.val hf hs (v := .int .i64 y3) rfl rfl rfl (V.pure rfl) (fun a hf => ?_)
      refine S.val hf hs (v := .bool y4) rfl rfl rfl (V.pure rfl) (fun a hf => ?_)
      refine S.val hf hs (v := .int .i64 y3) rfl rfl rfl (V.pure rfl) (fun a hf => ?_)
      refine S.val hf hs (v := .bool y4) rfl rfl rfl (V.pure rfl) (fun a hf => ?_)
      refine R.nil ?_
      refine X.then_ ?_
      refine wp_seq ?_
      refine R.list ?_
      refine S.val hf hs (v := .slice w_A w_.length w_C) rfl rfl rfl (V.pure rfl) (fun a hf => ?_)
      obtain ⟨h0x3, x3, hx3, h⟩ := h
      refine S.val hf hs (v := elemPtr w_A (4 * 1)) rfl rfl rfl (V.index rfl rfl rfl Tryz.runUnderlying74 Tryz.sizeOf9 (hv_w_.some_ (lt_of_get hx3)) h0x3 (lt_of_get hx3) rfl) (fun a hf => ?_)
      refine S.val hf hs (v := .string (ba x3)) rfl rfl rfl (V.loadEl (off := 0) (Ag.args _ _ _) (hv_w_.flat hx3) rfl rfl rfl Tryz.isAgg9 Tryz.sizeOf9 rfl rfl) (fun a hf => ?_)
      refine S.call hf rfl rfl rfl (call_fn (vs := [.string (ba x3)]) rfl rfl rfl Tryz.call92) (R_ref4_number x3 _  _ h) (fun v a w' hf hr => ?_)
      obtain ⟨y5, y6, rfl, h2, hs2⟩ := hr
      replace h := h2; replace hs := hs.call hs2; clear h2 hs2
      refine S.val hf hs (v := .tuple #[.int .i64 y5, .bool y6]) rfl rfl rfl (V.pure rfl) (fun a hf => ?_)
      refine S.val hf hs (v := .int .i64 y5) rfl rfl rfl (V.pure rfl) (fun a hf => ?_)
      refine S.val hf hs (v := .bool y6) rfl rfl rfl (V.pure rfl) (fun a hf => ?_)
      refine S.val hf hs (v := .int .i64 y5) rfl rfl rfl (V.pure rfl) (fun a hf => ?_)
      refine S.val hf hs (v := .bool y6) rfl rfl rfl (V.pure rfl) (fun a hf => ?_)
      refine R.nil ?_
      refine X.then_ ?_
      refine wp_seq ?_
      refine R.list ?_
      refine S.val hf hs (v := .slice w_A w_.length w_C) rfl rfl rfl (V.pure rfl) (fun a hf => ?_)
      obtain ⟨h0x4, x4, hx4, h⟩ := h
      refine S.val hf hs (v := elemPtr w_A (1 * 1)) rfl rfl rfl (V.index rfl rfl rfl Tryz.runUnderlying74 Tryz.sizeOf9 (hv_w_.some_ (lt_of_get hx4)) h0x4 (lt_of_get hx4) rfl) (fun a hf => ?_)
      refine S.val hf hs (v := .string (ba x4)) rfl rfl rfl (V.loadEl (off := 0) (Ag.args _ _ _) (hv_w_.flat hx4) rfl rfl rfl Tryz.isAgg9 Tryz.sizeOf9 rfl rfl) (fun a hf => ?_)
      refine S.val hf hs (v := .int .i64 (w64 (y2 + 1))) rfl rfl rfl (V.pure rfl) (fun a hf => ?_)
      refine S.val hf hs (v := .int .i64 y3) rfl rfl rfl (V.pure rfl) (fun a hf => ?_)
      refine S.val hf hs (v := .int .i64 y5) rfl rfl rfl (V.pure rfl) (fun a hf => ?_)
      refine S.val hf hs (v := .agg #[.string (ba x4), .int .i64 (w64 (y2 + 1)), .int .i64 y3, .int .i64 y5]) rfl rfl rfl (V.build (places := #[(0, 1), (1, 1), (2, 1), (3, 1)]) rfl Tryz.zeroValue29 Tryz.runUnderlying29 (by intro w; simp [Tryz.sizeOf3, Tryz.sizeOf9]) rfl rfl) (fun a hf => ?_)
      refine S.val hf hs (v := .int .i64 (w64 (y2 + 1))) rfl rfl rfl (V.pure rfl) (fun a hf => ?_)
      refine S.val hf hs (v := .bool (decide (w64 (y2 + 1) > 0))) rfl rfl rfl (V.pure rfl) (fun a hf => ?_)
      refine S.split hf hs (b := decide (w64 (y2 + 1) > 0)) rfl rfl rfl (V.pure rfl) (fun hc a hf => ?_) (fun hc a hf => ?_)
      · replace h := h.1 hc
        refine S.val hf hs (v := .bool y4) rfl rfl rfl (V.pure rfl) (fun a hf => ?_)
        refine S.val hf hs (v := .bool y4) rfl rfl rfl (V.pure rfl) (fun a hf => ?_)
        refine S.split hf hs (b := y4) rfl rfl rfl (V.pure rfl) (fun hc a hf => ?_) (fun hc a hf => ?_)
        · replace h := h.1 hc
          refine S.val hf hs (v := .bool y6) rfl rfl rfl (V.pure rfl) (fun a hf => ?_)
          refine S.val hf hs (v := .bool y6) rfl rfl rfl (V.pure rfl) (fun a hf => ?_)
          refine S.storeBox 1 hf hs rfl rfl [.string (ba x4), .int .i64 (w64 (y2 + 1)), .int .i64 y3, .int .i64 y5] [.string (ba x4), .int .i64 (w64 (y2 + 1)), .int .i64 y3, .int .i64 y5] rfl rfl rfl rfl rfl Tryz.sizeOf29 rfl rfl rfl rfl (fun a w hf hs => ?_)
          refine S.val hf hs (v := .bool y6) rfl rfl rfl (V.pure rfl) (fun a hf => ?_)
          refine R.nil ?_
          refine X.then_ ?_
          refine wp_ret ?_
          exact L.ret hf (run_results2 Tryz.results42 (ResIs.box hf hs 1 rfl rfl Tryz.isAgg29 Tryz.sizeOf29 rfl rfl) (ResIs.tmp hf rfl)) ⟨(⟨x4, w64 (y2 + 1), y3, y5⟩ : Material), y6, rfl, h, hs.nil⟩
        · replace h := h.2 hc
          refine S.skip hf rfl rfl rfl (fun a hf => ?_)
          refine S.val hf hs (v := .bool false) rfl rfl rfl (V.pure rfl) (fun a hf => ?_)
          refine S.storeBox 1 hf hs rfl rfl [.string (ba x4), .int .i64 (w64 (y2 + 1)), .int .i64 y3, .int .i64 y5] [.string (ba x4), .int .i64 (w64 (y2 + 1)), .int .i64 y3, .int .i64 y5] rfl rfl rfl rfl rfl Tryz.sizeOf29 rfl rfl rfl rfl (fun a w hf hs => ?_)
          refine S.val hf hs (v := .bool false) rfl rfl rfl (V.pure rfl) (fun a hf => ?_)
          refine R.nil ?_
          refine X.then_ ?_
          refine wp_ret ?_
          exact L.ret hf (run_results2 Tryz.results42 (ResIs.box hf hs 1 rfl rfl Tryz.isAgg29 Tryz.sizeOf29 rfl rfl) (ResIs.tmp hf rfl)) ⟨(⟨x4, w64 (y2 + 1), y3, y5⟩ : Material), false, rfl, h, hs.nil⟩
      · replace h := h.2 hc
        refine S.skip hf rfl rfl rfl (fun a hf => ?_)
        refine S.val hf hs (v := .bool false) rfl rfl rfl (V.pure rfl) (fun a hf => ?_)
        refine S.val hf hs (v := .bool false) rfl rfl rfl (V.pure rfl) (fun a hf => ?_)
        refine S.skip hf rfl rfl rfl (fun a hf => ?_)
        refine S.val hf hs (v := .bool false) rfl rfl rfl (V.pure rfl) (fun a hf => ?_)
        refine S.storeBox 1 hf hs rfl rfl [.string (ba x4), .int .i64 (w64 (y2 + 1)), .int .i64 y3, .int .i64 y5] [.string (ba x4), .int .i64 (w64 (y2 + 1)), .int .i64 y3, .int .i64 y5] rfl rfl rfl rfl rfl Tryz.sizeOf29 rfl rfl rfl rfl (fun a w hf hs => ?_)
        refine S.val hf hs (v := .bool false) rfl rfl rfl (V.pure rfl) (fun a hf => ?_)
        refine R.nil ?_
        refine X.then_ ?_
        refine wp_ret ?_
        exact L.ret hf (run_results2 Tryz.results42 (ResIs.box hf hs 1 rfl rfl Tryz.isAgg29 Tryz.sizeOf29 rfl rfl) (ResIs.tmp hf rfl)) ⟨(⟨x4, w64 (y2 + 1), y3, y5⟩ : Material), false, rfl, h, hs.nil⟩
  · skip
    refine R.list ?_
    refine S.val hf hs (v := .slice w_A w_.length w_C) rfl rfl rfl (V.pure rfl) (fun a hf => ?_)
    refine S.val hf hs (v := .int .i64 (w_.length : Int)) rfl rfl rfl (V.len rfl rfl Tryz.runUnderlying74) (fun a hf => ?_)
    refine S.val hf hs (v := .bool ((w_.length : Int) != 5)) rfl rfl rfl (V.pure rfl) (fun a hf => ?_)
    refine S.split hf hs (b := (w_.length : Int) != 5) rfl rfl rfl (V.pure rfl) (fun hc a hf => ?_) (fun hc a hf => ?_)
    · replace h := h.1 hc
      refine S.skip hf rfl rfl rfl (fun a hf => ?_)
      refine S.skip hf rfl rfl rfl (fun a hf => ?_)
      refine S.skip hf rfl rfl rfl (fun a hf => ?_)
      refine S.skip hf rfl rfl rfl (fun a hf => ?_)
      refine S.skip hf rfl rfl rfl (fun a hf => ?_)
      refine S.val hf hs (v := .bool true) rfl rfl rfl (V.pure rfl) (fun a hf => ?_)
      refine R.nil ?_
      refine X.then_ ?_
      exact ⟨true, h, (((hf.nil.cons (hf.get 18 _ rfl)).cons (hf.get 2 _ rfl)).cons (hf.get 0 _ rfl)), hs⟩
    · replace h := h.2 hc
      refine S.val hf hs (v := .slice w_A w_.length w_C) rfl rfl rfl (V.pure rfl) (fun a hf => ?_)
      obtain ⟨h0x5, x5, hx5, h⟩ := h
      refine S.val hf hs (v := elemPtr w_A (1 * 1)) rfl rfl rfl (V.index rfl rfl rfl Tryz.runUnderlying74 Tryz.sizeOf9 (hv_w_.some_ (lt_of_get hx5)) h0x5 (lt_of_get hx5) rfl) (fun a hf => ?_)
      refine S.val hf hs (v := .string (ba x5)) rfl rfl rfl (V.loadEl (off := 0) (Ag.args _ _ _) (hv_w_.flat hx5) rfl rfl rfl Tryz.isAgg9 Tryz.sizeOf9 rfl rfl) (fun a hf => ?_)
      refine S.call hf rfl rfl rfl (call_fn (vs := [.string (ba x5)]) rfl rfl rfl Tryz.call91) (R_ref4_isRow x5 _  _ h) (fun v a w' hf hr => ?_)
      obtain ⟨y7, rfl, h2, hs2⟩ := hr
      replace h := h2; replace hs := hs.call hs2; clear h2 hs2
      refine S.val hf hs (v := .bool (!y7)) rfl rfl rfl (V.pure rfl) (fun a hf => ?_)
      refine S.val hf hs (v := .bool (!y7)) rfl rfl rfl (V.pure rfl) (fun a hf => ?_)
      refine R.nil ?_
      refine X.then_ ?_
      exact ⟨(!y7), h, (((hf.nil.cons (hf.get 18 _ rfl)).cons (hf.get 2 _ rfl)).cons (hf.get 0 _ rfl)), hs⟩

set_option linter.unusedVariables false
def M_ref4_readLayer_k2 (w_ : (List Str)) (Q : Layer → Bool → Prop) (c2 : Bool) : Prop :=
  cnd c2 (idx w_ 1 fun x3 => M_ref4_isRow x3 fun y3 => Q (⟨[], x3⟩ : Layer) y3) (Q (⟨[], []⟩ : Layer) false)
def M_ref4_readLayer_k1 (w_ : (List Str)) (Q : Layer → Bool → Prop) (c1 : Bool) : Prop :=
  cnd c1 (idx w_ 1 fun x1 => idx w_ 2 fun x2 => M_ref4_isRow x1 fun y1 => cnd y1 (M_ref4_isRow x2 fun y2 => Q (⟨x1, x2⟩ : Layer) y2) (Q (⟨x1, x2⟩ : Layer) false)) (cnd ((w_.length : Int) == 2) (idx w_ 0 fun x4 => M_ref4_readLayer_k2 w_ Q (x4 == [108, 97, 121, 101, 114])) (M_ref4_readLayer_k2 w_ Q false))
def M_ref4_readLayer (w_ : (List Str)) (Q : Layer → Bool → Prop) : Prop :=
  cnd ((w_.length : Int) == 3) (idx w_ 0 fun x5 => M_ref4_readLayer_k1 w_ Q (x5 == [99, 111, 112, 112, 101, 114])) (M_ref4_readLayer_k1 w_ Q false)
set_option maxHeartbeats 1000000 in
theorem R_ref4_readLayer (w_ : (List Str)) (w0 : World) (w_A : Option Addr) (w_C : Nat) (hv_w_ : View w0 (old w0 none_) w_A w_C w_) (Q : Layer → Bool → Prop) (h : M_ref4_readLayer w_ Q) :
    Ret Tryz.prog 43 #[.slice w_A w_.length w_C] w0 fun v w' => ∃ (r0 : Layer) (r1 : Bool), v = .tuple #[.agg #[.string (ba r0.Name), .string (ba r0.Material)], .bool r1] ∧ Q r0 r1 ∧ Sat w0 none_ [] w' := by
  refine fn_enter Tryz.func43 rfl Tryz.ntmps43 rfl (fs := [(0, .slice w_A w_.length w_C)]) rfl (fun a hf => ?_)
  have hs := Sat.start w0 none_
  unfold M_ref4_readLayer at h
  refine wp_seq ?_
  refine R.list ?_
  refine S.alloc hf hs rfl rfl rfl [.string (ba []), .string (ba [])] rfl Tryz.zeroValue32 rfl (fun g1 a w hf hs => ?_)
  refine S.val hf hs (v := .bool false) rfl rfl rfl (V.pure rfl) (fun a hf => ?_)
  refine R.nil ?_
  refine X.then_ ?_
  refine wp_seq ?_
  refine wp_block ?_
  refine wp_seq ?_
  refine C.cut (J := fun a w => ∃ (c1 : Bool), M_ref4_readLayer_k1 w_ Q c1 ∧ FrOk 50 [(0, .slice w_A w_.length w_C), (2, .pointer (some ⟨g1, 0, none⟩)), (4, .bool c1)] a ∧ Sat w0 none_ [hbox g1 32 [.string (ba []), .string (ba [])]] w) ?_ ?_
  · rintro a w ⟨c1, h, hf, hs⟩
    unfold M_ref4_readLayer_k1 at h
    refine C.cond hf (b := c1) rfl (fun hc => ?_) (fun hc => ?_)
    · replace h := h.1 hc
      refine wp_seq ?_
      refine H.start (S := Sat w0 none_ []) mo ?_
      replace hs := hs.drew
      refine H.val hf hs.nil (v := .slice w_A w_.length w_C) (i := 0) rfl rfl rfl rfl (by kernel_rfl) (by kernel_rfl) (by kernel_rfl) (V.pure rfl) (fun a hf => ?_)
      obtain ⟨h0x1, x1, hx1, h⟩ := h
      refine H.val hf hs.nil (v := elemPtr w_A (1 * 1)) (i := 1) rfl rfl rfl rfl (by kernel_rfl) (by kernel_rfl) (by kernel_rfl) (V.index rfl rfl rfl Tryz.runUnderlying74 Tryz.sizeOf9 (hv_w_.some_ (lt_of_get hx1)) h0x1 (lt_of_get hx1) rfl) (fun a hf => ?_)
      refine H.val hf hs.nil (v := .string (ba x1)) (i := 2) rfl rfl rfl rfl (by kernel_rfl) (by kernel_rfl) (by kernel_rfl) (V.loadEl (off := 0) (Ag.args _ _ _) (hv_w_.flat hx1) rfl rfl rfl Tryz.isAgg9 Tryz.sizeOf9 rfl rfl) (fun a hf => ?_)
      refine H.val hf hs.nil (v := .slice w_A w_.length w_C) (i := 3) rfl rfl rfl rfl (by kernel_rfl) (by kernel_rfl) (by kernel_rfl) (V.pure rfl) (fun a hf => ?_)
      obtain ⟨h0x2, x2, hx2, h⟩ := h
      refine H.val hf hs.nil (v := elemPtr w_A (2 * 1)) (i := 4) rfl rfl rfl rfl (by kernel_rfl) (by kernel_rfl) (by kernel_rfl) (V.index rfl rfl rfl Tryz.runUnderlying74 Tryz.sizeOf9 (hv_w_.some_ (lt_of_get hx2)) h0x2 (lt_of_get hx2) rfl) (fun a hf => ?_)
      refine H.val hf hs.nil (v := .string (ba x2)) (i := 5) rfl rfl rfl rfl (by kernel_rfl) (by kernel_rfl) (by kernel_rfl) (V.loadEl (off := 0) (Ag.args _ _ _) (hv_w_.flat hx2) rfl rfl rfl Tryz.isAgg9 Tryz.sizeOf9 rfl rfl) (fun a hf => ?_)
      refine H.val hf hs.nil (v := .slice w_A w_.length w_C) (i := 7) rfl rfl rfl rfl (by kernel_rfl) (by kernel_rfl) (by kernel_rfl) (V.pure rfl) (fun a hf => ?_)
      refine H.val hf hs.nil (v := elemPtr w_A (1 * 1)) (i := 8) rfl rfl rfl rfl (by kernel_rfl) (by kernel_rfl) (by kernel_rfl) (V.index rfl rfl rfl Tryz.runUnderlying74 Tryz.sizeOf9 (hv_w_.some_ (lt_of_get hx1)) h0x1 (lt_of_get hx1) rfl) (fun a hf => ?_)
      refine H.val hf hs.nil (v := .string (ba x1)) (i := 9) rfl rfl rfl rfl (by kernel_rfl) (by kernel_rfl) (by kernel_rfl) (V.loadEl (off := 0) (Ag.args _ _ _) (hv_w_.flat hx1) rfl rfl rfl Tryz.isAgg9 Tryz.sizeOf9 rfl rfl) (fun a hf => ?_)
      refine H.each2 (i0 := 6) (i1 := 10) rfl rfl (by kernel_rfl) ?_ ?_
      · refine S.val hf hs (v := .agg #[.string (ba x1), .string (ba x2)]) rfl rfl rfl (V.build (places := #[(0, 1), (1, 1)]) rfl Tryz.zeroValue32 Tryz.runUnderlying32 (by intro w; simp [Tryz.sizeOf9]) rfl rfl) (fun a hf => ?_)
        refine R.nil ?_
        refine X.then_ ?_
        refine ⟨hs.nil, ?_⟩
        refine H.one (i := 10) rfl (by kernel_rfl) ?_
        refine S.call hf rfl rfl rfl (call_fn (vs := [.string (ba x1)]) rfl rfl rfl Tryz.call91) (R_ref4_isRow x1 _  _ h) (fun v a w' hf hr => ?_)
        obtain ⟨y1, rfl, h2, hs2⟩ := hr
        replace h := h2; replace hs := hs.call hs2; clear h2 hs2
        refine R.nil ?_
        refine X.then_ ?_
        refine ⟨hs.nil, ?_⟩
        refine H.split hf hs.nil (b := y1) (i := 11) rfl rfl rfl rfl (by kernel_rfl) (by kernel_rfl) (by kernel_rfl) (V.pure rfl) (fun hc a hf => ?_) (fun hc a hf => ?_)
        · replace h := h.1 hc
          refine H.val hf hs.nil (v := .slice w_A w_.length w_C) (i := 12) rfl rfl rfl rfl (by kernel_rfl) (by kernel_rfl) (by kernel_rfl) (V.pure rfl) (fun a hf => ?_)
          refine H.val hf hs.nil (v := elemPtr w_A (2 * 1)) (i := 13) rfl rfl rfl rfl (by kernel_rfl) (by kernel_rfl) (by kernel_rfl) (V.index rfl rfl rfl Tryz.runUnderlying74 Tryz.sizeOf9 (hv_w_.some_ (lt_of_get hx2)) h0x2 (lt_of_get hx2) rfl) (fun a hf => ?_)
          refine H.val hf hs.nil (v := .string (ba x2)) (i := 14) rfl rfl rfl rfl (by kernel_rfl) (by kernel_rfl) (by kernel_rfl) (V.loadEl (off := 0) (Ag.args _ _ _) (hv_w_.flat hx2) rfl rfl rfl Tryz.isAgg9 Tryz.sizeOf9 rfl rfl) (fun a hf => ?_)
          refine H.one (i := 15) rfl (by kernel_rfl) ?_
          refine S.call hf rfl rfl rfl (call_fn (vs := [.string (ba x2)]) rfl rfl rfl Tryz.call91) (R_ref4_isRow x2 _  _ h) (fun v a w' hf hr => ?_)
          obtain ⟨y2, rfl, h2, hs2⟩ := hr
          replace h := h2; replace hs := hs.call hs2; clear h2 hs2
          refine R.nil ?_
          refine X.then_ ?_
          refine ⟨hs.nil, ?_⟩
          refine H.val hf hs.nil (v := .bool y2) (i := 16) rfl rfl rfl rfl (by kernel_rfl) (by kernel_rfl) (by kernel_rfl) (V.pure rfl) (fun a hf => ?_)
          refine H.one (i := 17) rfl (by kernel_rfl) ?_
          refine S.storeBox 0 hf hs rfl rfl [.string (ba x1), .string (ba x2)] [.string (ba x1), .string (ba x2)] rfl rfl rfl rfl rfl Tryz.sizeOf32 rfl rfl rfl rfl (fun a w hf hs => ?_)
          refine R.nil ?_
          refine X.then_ ?_
          refine ⟨hs.nil, ?_⟩
          refine H.val hf hs.nil (v := .bool y2) (i := 18) rfl rfl rfl rfl (by kernel_rfl) (by kernel_rfl) (by kernel_rfl) (V.pure rfl) (fun a hf => ?_)
          refine H.done (by kernel_rfl) ?_
          refine X.then_ ?_
          refine wp_ret ?_
          refine X.blk_ret ?_
          refine X.then_ret ?_
          exact L.ret hf (run_results2 Tryz.results43 (ResIs.box hf hs 0 rfl rfl Tryz.isAgg32 Tryz.sizeOf32 rfl rfl) (ResIs.tmp hf rfl)) ⟨(⟨x1, x2⟩ : Layer), y2, rfl, h, hs.nil⟩
        · replace h := h.2 hc
          refine H.skip hf hs.nil (i := 12) rfl rfl rfl rfl (by kernel_rfl) (by kernel_rfl) (by kernel_rfl) (fun a hf => ?_)
          refine H.skip hf hs.nil (i := 13) rfl rfl rfl rfl (by kernel_rfl) (by kernel_rfl) (by kernel_rfl) (fun a hf => ?_)
          refine H.skip hf hs.nil (i := 14) rfl rfl rfl rfl (by kernel_rfl) (by kernel_rfl) (by kernel_rfl) (fun a hf => ?_)
          refine H.one (i := 15) rfl (by kernel_rfl) ?_
          refine S.skip hf rfl rfl rfl (fun a hf => ?_)
          refine R.nil ?_
          refine X.then_ ?_
          refine ⟨hs.nil, ?_⟩
          refine H.val hf hs.nil (v := .bool false) (i := 16) rfl rfl rfl rfl (by kernel_rfl) (by kernel_rfl) (by kernel_rfl) (V.pure rfl) (fun a hf => ?_)
          refine H.one (i := 17) rfl (by kernel_rfl) ?_
          refine S.storeBox 0 hf hs rfl rfl [.string (ba x1), .string (ba x2)] [.string (ba x1), .string (ba x2)] rfl rfl rfl rfl rfl Tryz.sizeOf32 rfl rfl rfl rfl (fun a w hf hs => ?_)
          refine R.nil ?_
          refine X.then_ ?_
          refine ⟨hs.nil, ?_⟩
          refine H.val hf hs.nil (v := .bool false) (i := 18) rfl rfl rfl rfl (by kernel_rfl) (by kernel_rfl) (by kernel_rfl) (V.pure rfl) (fun a hf => ?_)
          refine H.done (by kernel_rfl) ?_
          refine X.then_ ?_
          refine wp_ret ?_
          refine X.blk_ret ?_
          refine X.then_ret ?_
          exact L.ret hf (run_results2 Tryz.results43 (ResIs.box hf hs 0 rfl rfl Tryz.isAgg32 Tryz.sizeOf32 rfl rfl) (ResIs.tmp hf rfl)) ⟨(⟨x1, x2⟩ : Layer), false, rfl, h, hs.nil⟩
      · refine S.call hf rfl rfl rfl (call_fn (vs := [.string (ba x1)]) rfl rfl rfl Tryz.call91) (R_ref4_isRow x1 _  _ h) (fun v a w' hf hr => ?_)
        obtain ⟨y1, rfl, h2, hs2⟩ := hr
        replace h := h2; replace hs := hs.call hs2; clear h2 hs2
        refine R.nil ?_
        refine X.then_ ?_
        refine ⟨hs.nil, ?_⟩
        refine H.split hf hs.nil (b := y1) (i := 11) rfl rfl rfl rfl (by kernel_rfl) (by kernel_rfl) (by kernel_rfl) (V.pure rfl) (fun hc a hf => ?_) (fun hc a hf => ?_)
        · replace h := h.1 hc
          refine H.val hf hs.nil (v := .slice w_A w_.length w_C) (i := 12) rfl rfl rfl rfl (by kernel_rfl) (by kernel_rfl) (by kernel_rfl) (V.pure rfl) (fun a hf => ?_)
          refine H.val hf hs.nil (v := elemPtr w_A (2 * 1)) (i := 13) rfl rfl rfl rfl (by kernel_rfl) (by kernel_rfl) (by kernel_rfl) (V.index rfl rfl rfl Tryz.runUnderlying74 Tryz.sizeOf9 (hv_w_.some_ (lt_of_get hx2)) h0x2 (lt_of_get hx2) rfl) (fun a hf => ?_)
          refine H.val hf hs.nil (v := .string (ba x2)) (i := 14) rfl rfl rfl rfl (by kernel_rfl) (by kernel_rfl) (by kernel_rfl) (V.loadEl (off := 0) (Ag.args _ _ _) (hv_w_.flat hx2) rfl rfl rfl Tryz.isAgg9 Tryz.sizeOf9 rfl rfl) (fun a hf => ?_)
          refine H.each2 (i0 := 6) (i1 := 15) rfl rfl (by kernel_rfl) ?_ ?_
          · refine S.val hf hs (v := .agg #[.string (ba x1), .string (ba x2)]) rfl rfl rfl (V.build (places := #[(0, 1), (1, 1)]) rfl Tryz.zeroValue32 Tryz.runUnderlying32 (by intro w; simp [Tryz.sizeOf9]) rfl rfl) (fun a hf => ?_)
            refine R.nil ?_
            refine X.then_ ?_
            refine ⟨hs.nil, ?_⟩
            refine H.one (i := 15) rfl (by kernel_rfl) ?_
            refine S.call hf rfl rfl rfl (call_fn (vs := [.string (ba x2)]) rfl rfl rfl Tryz.call91) (R_ref4_isRow x2 _  _ h) (fun v a w' hf hr => ?_)
            obtain ⟨y2, rfl, h2, hs2⟩ := hr
            replace h := h2; replace hs := hs.call hs2; clear h2 hs2
            refine R.nil ?_
            refine X.then_ ?_
            refine ⟨hs.nil, ?_⟩
            refine H.val hf hs.nil (v := .bool y2) (i := 16) rfl rfl rfl rfl (by kernel_rfl) (by kernel_rfl) (by kernel_rfl) (V.pure rfl) (fun a hf => ?_)
            refine H.one (i := 17) rfl (by kernel_rfl) ?_
            refine S.storeBox 0 hf hs rfl rfl [.string (ba x1), .string (ba x2)] [.string (ba x1), .string (ba x2)] rfl rfl rfl rfl rfl Tryz.sizeOf32 rfl rfl rfl rfl (fun a w hf hs => ?_)
            refine R.nil ?_
            refine X.then_ ?_
            refine ⟨hs.nil, ?_⟩
            refine H.val hf hs.nil (v := .bool y2) (i := 18) rfl rfl rfl rfl (by kernel_rfl) (by kernel_rfl) (by kernel_rfl) (V.pure rfl) (fun a hf => ?_)
            refine H.done (by kernel_rfl) ?_
            refine X.then_ ?_
            refine wp_ret ?_
            refine X.blk_ret ?_
            refine X.then_ret ?_
            exact L.ret hf (run_results2 Tryz.results43 (ResIs.box hf hs 0 rfl rfl Tryz.isAgg32 Tryz.sizeOf32 rfl rfl) (ResIs.tmp hf rfl)) ⟨(⟨x1, x2⟩ : Layer), y2, rfl, h, hs.nil⟩
          · refine S.call hf rfl rfl rfl (call_fn (vs := [.string (ba x2)]) rfl rfl rfl Tryz.call91) (R_ref4_isRow x2 _  _ h) (fun v a w' hf hr => ?_)
            obtain ⟨y2, rfl, h2, hs2⟩ := hr
            replace h := h2; replace hs := hs.call hs2; clear h2 hs2
            refine R.nil ?_
            refine X.then_ ?_
            refine ⟨hs.nil, ?_⟩
            refine H.val hf hs.nil (v := .bool y2) (i := 16) rfl rfl rfl rfl (by kernel_rfl) (by kernel_rfl) (by kernel_rfl) (V.pure rfl) (fun a hf => ?_)
            refine H.one (i := 6) rfl (by kernel_rfl) ?_
            refine S.val hf hs (v := .agg #[.string (ba x1), .string (ba x2)]) rfl rfl rfl (V.build (places := #[(0, 1), (1, 1)]) rfl Tryz.zeroValue32 Tryz.runUnderlying32 (by intro w; simp [Tryz.sizeOf9]) rfl rfl) (fun a hf => ?_)
            refine R.nil ?_
            refine X.then_ ?_
            refine ⟨hs.nil, ?_⟩
            refine H.one (i := 17) rfl (by kernel_rfl) ?_
            refine S.storeBox 0 hf hs rfl rfl [.string (ba x1), .string (ba x2)] [.string (ba x1), .string (ba x2)] rfl rfl rfl rfl rfl Tryz.sizeOf32 rfl rfl rfl rfl (fun a w hf hs => ?_)
            refine R.nil ?_
            refine X.then_ ?_
            refine ⟨hs.nil, ?_⟩
            refine H.val hf hs.nil (v := .bool y2) (i := 18) rfl rfl rfl rfl (by kernel_rfl) (by kernel_rfl) (by kernel_rfl) (V.pure rfl) (fun a hf => ?_)
            refine H.done (by kernel_rfl) ?_
            refine X.then_ ?_
            refine wp_ret ?_
            refine X.blk_ret ?_
            refine X.then_ret ?_
            exact L.ret hf (run_results2 Tryz.results43 (ResIs.box hf hs 0 rfl rfl Tryz.isAgg32 Tryz.sizeOf32 rfl rfl) (ResIs.tmp hf rfl)) ⟨(⟨x1, x2⟩ : Layer), y2, rfl, h, hs.nil⟩
        · replace h := h.2 hc
          refine H.skip hf hs.nil (i := 12) rfl rfl rfl rfl (by kernel_rfl) (by kernel_rfl) (by kernel_rfl) (fun a hf => ?_)
          refine H.skip hf hs.nil (i := 13) rfl rfl rfl rfl (by kernel_rfl) (by kernel_rfl) (by kernel_rfl) (fun a hf => ?_)
          refine H.skip hf hs.nil (i := 14) rfl rfl rfl rfl (by kernel_rfl) (by kernel_rfl) (by kernel_rfl) (fun a hf => ?_)
          refine H.each2 (i0 := 6) (i1 := 15) rfl rfl (by kernel_rfl) ?_ ?_
          · refine S.val hf hs (v := .agg #[.string (ba x1), .string (ba x2)]) rfl rfl rfl (V.build (places := #[(0, 1), (1, 1)]) rfl Tryz.zeroValue32 Tryz.runUnderlying32 (by intro w; simp [Tryz.sizeOf9]) rfl rfl) (fun a hf => ?_)
            refine R.nil ?_
            refine X.then_ ?_
            refine ⟨hs.nil, ?_⟩
            refine H.one (i := 15) rfl (by kernel_rfl) ?_
            refine S.skip hf rfl rfl rfl (fun a hf => ?_)
            refine R.nil ?_
            refine X.then_ ?_
            refine ⟨hs.nil, ?_⟩
            refine H.val hf hs.nil (v := .bool false) (i := 16) rfl rfl rfl rfl (by kernel_rfl) (by kernel_rfl) (by kernel_rfl) (V.pure rfl) (fun a hf => ?_)
            refine H.one (i := 17) rfl (by kernel_rfl) ?_
            refine S.storeBox 0 hf hs rfl rfl [.string (ba x1), .string (ba x2)] [.string (ba x1), .string (ba x2)] rfl rfl rfl rfl rfl Tryz.sizeOf32 rfl rfl rfl rfl (fun a w hf hs => ?_)
            refine R.nil ?_
            refine X.then_ ?_
            refine ⟨hs.nil, ?_⟩
            refine H.val hf hs.nil (v := .bool false) (i := 18) rfl rfl rfl rfl (by kernel_rfl) (by kernel_rfl) (by kernel_rfl) (V.pure rfl) (fun a hf => ?_)
            refine H.done (by kernel_rfl) ?_
            refine X.then_ ?_
            refine wp_ret ?_
            refine X.blk_ret ?_
            refine X.then_ret ?_
            exact L.ret hf (run_results2 Tryz.results43 (ResIs.box hf hs 0 rfl rfl Tryz.isAgg32 Tryz.sizeOf32 rfl rfl) (ResIs.tmp hf rfl)) ⟨(⟨x1, x2⟩ : Layer), false, rfl, h, hs.nil⟩
          · refine S.skip hf rfl rfl rfl (fun a hf => ?_)
            refine R.nil ?_
            refine X.then_ ?_
            refine ⟨hs.nil, ?_⟩
            refine H.val hf hs.nil (v := .bool false) (i := 16) rfl rfl rfl rfl (by kernel_rfl) (by kernel_rfl) (by kernel_rfl) (V.pure rfl) (fun a hf => ?_)
            refine H.one (i := 6) rfl (by kernel_rfl) ?_
            refine S.val hf hs (v := .agg #[.string (ba x1), .string (ba x2)]) rfl rfl rfl (V.build (places := #[(0, 1), (1, 1)]) rfl Tryz.zeroValue32 Tryz.runUnderlying32 (by intro w; simp [Tryz.sizeOf9]) rfl rfl) (fun a hf => ?_)
            refine R.nil ?_
            refine X.then_ ?_
            refine ⟨hs.nil, ?_⟩
            refine H.one (i := 17) rfl (by kernel_rfl) ?_
            refine S.storeBox 0 hf hs rfl rfl [.string (ba x1), .string (ba x2)] [.string (ba x1), .string (ba x2)] rfl rfl rfl rfl rfl Tryz.sizeOf32 rfl rfl rfl rfl (fun a w hf hs => ?_)
            refine R.nil ?_
            refine X.then_ ?_
            refine ⟨hs.nil, ?_⟩
            refine H.val hf hs.nil (v := .bool false) (i := 18) rfl rfl rfl rfl (by kernel_rfl) (by kernel_rfl) (by kernel_rfl) (V.pure rfl) (fun a hf => ?_)
            refine H.done (by kernel_rfl) ?_
            refine X.then_ ?_
            refine wp_ret ?_
            refine X.blk_ret ?_
            refine X.then_ret ?_
            exact L.ret hf (run_results2 Tryz.results43 (ResIs.box hf hs 0 rfl rfl Tryz.isAgg32 Tryz.sizeOf32 rfl rfl) (ResIs.tmp hf rfl)) ⟨(⟨x1, x2⟩ : Layer), false, rfl, h, hs.nil⟩
    · replace h := h.2 hc
      refine wp_seq ?_
      refine C.cut (J := fun a w => ∃ (c2 : Bool), M_ref4_readLayer_k2 w_ Q c2 ∧ FrOk 50 [(0, .slice w_A w_.length w_C), (2, .pointer (some ⟨g1, 0, none⟩)), (31, .bool c2)] a ∧ Sat w0 none_ [hbox g1 32 [.string (ba []), .string (ba [])]] w) ?_ ?_
      · rintro a w ⟨c2, h, hf, hs⟩
        unfold M_ref4_readLayer_k2 at h
        refine C.cond hf (b := c2) rfl (fun hc => ?_) (fun hc => ?_)
        · replace h := h.1 hc
          refine wp_seq ?_
          refine H.start (S := Sat w0 none_ []) mo ?_
          replace hs := hs.drew
          refine H.val hf hs.nil (v := .slice w_A w_.length w_C) (i := 0) rfl rfl rfl rfl (by kernel_rfl) (by kernel_rfl) (by kernel_rfl) (V.pure rfl) (fun a hf => ?_)
          obtain ⟨h0x3, x3, hx3, h⟩ := h
          refine H.val hf hs.nil (v := elemPtr w_A (1 * 1)) (i := 1) rfl rfl rfl rfl (by kernel_rfl) (by kernel_rfl) (by kernel_rfl) (V.index rfl rfl rfl Tryz.runUnderlying74 Tryz.sizeOf9 (hv_w_.some_ (lt_of_get hx3)) h0x3 (lt_of_get hx3) rfl) (fun a hf => ?_)
          refine H.val hf hs.nil (v := .string (ba x3)) (i := 2) rfl rfl rfl rfl (by kernel_rfl) (by kernel_rfl) (by kernel_rfl) (V.loadEl (off := 0) (Ag.args _ _ _) (hv_w_.flat hx3) rfl rfl rfl Tryz.isAgg9 Tryz.sizeOf9 rfl rfl) (fun a hf => ?_)
          refine H.val hf hs.nil (v := .slice w_A w_.length w_C) (i := 4) rfl rfl rfl rfl (by kernel_rfl) (by kernel_rfl) (by kernel_rfl) (V.pure rfl) (fun a hf => ?_)
          refine H.val hf hs.nil (v := elemPtr w_A (1 * 1)) (i := 5) rfl rfl rfl rfl (by kernel_rfl) (by kernel_rfl) (by kernel_rfl) (V.index rfl rfl rfl Tryz.runUnderlying74 Tryz.sizeOf9 (hv_w_.some_ (lt_of_get hx3)) h0x3 (lt_of_get hx3) rfl) (fun a hf => ?_)
          refine H.val hf hs.nil (v := .string (ba x3)) (i := 6) rfl rfl rfl rfl (by kernel_rfl) (by kernel_rfl) (by kernel_rfl) (V.loadEl (off := 0) (Ag.args _ _ _) (hv_w_.flat hx3) rfl rfl rfl Tryz.isAgg9 Tryz.sizeOf9 rfl rfl) (fun a hf => ?_)
          refine H.each2 (i0 := 3) (i1 := 7) rfl rfl (by kernel_rfl) ?_ ?_
          · refine S.val hf hs (v := .agg #[.string (ba []), .string (ba x3)]) rfl rfl rfl (V.build (places := #[(0, 1), (1, 1)]) rfl Tryz.zeroValue32 Tryz.runUnderlying32 (by intro w; simp [Tryz.sizeOf9]) rfl rfl) (fun a hf => ?_)
            refine R.nil ?_
            refine X.then_ ?_
            refine ⟨hs.nil, ?_⟩
            refine H.one (i := 7) rfl (by kernel_rfl) ?_
            refine S.call hf rfl rfl rfl (call_fn (vs := [.string (ba x3)]) rfl rfl rfl Tryz.call91) (R_ref4_isRow x3 _  _ h) (fun v a w' hf hr => ?_)
            obtain ⟨y3, rfl, h2, hs2⟩ := hr
            replace h := h2; replace hs := hs.call hs2; clear h2 hs2
            refine R.nil ?_
            refine X.then_ ?_
            refine ⟨hs.nil, ?_⟩
            refine H.one (i := 8) rfl (by kernel_rfl) ?_
            refine S.storeBox 0 hf hs rfl rfl [.string (ba []), .string (ba x3)] [.string (ba []), .string (ba x3)] rfl rfl rfl rfl rfl Tryz.sizeOf32 rfl rfl rfl rfl (fun a w hf hs => ?_)
            refine R.nil ?_
            refine X.then_ ?_
            refine ⟨hs.nil, ?_⟩
            refine H.val hf hs.nil (v := .bool y3) (i := 9) rfl rfl rfl rfl (by kernel_rfl) (by kernel_rfl) (by kernel_rfl) (V.pure rfl) (fun a hf => ?_)
            refine H.done (by kernel_rfl) ?_
            refine X.then_ ?_
            refine wp_ret ?_
            refine X.blk_ret ?_
            refine X.then_ret ?_
            exact L.ret hf (run_results2 Tryz.results43 (ResIs.box hf hs 0 rfl rfl Tryz.isAgg32 Tryz.sizeOf32 rfl rfl) (ResIs.tmp hf rfl)) ⟨(⟨[], x3⟩ : Layer), y3, rfl, h, hs.nil⟩
          · refine S.call hf rfl rfl rfl (call_fn (vs := [.string (ba x3)]) rfl rfl rfl Tryz.call91) (R_ref4_isRow x3 _  _ h) (fun v a w' hf hr => ?_)
            obtain ⟨y3, rfl, h2, hs2⟩ := hr
            replace h := h2; replace hs := hs.call hs2; clear h2 hs2
            refine R.nil ?_
            refine X.then_ ?_
            refine ⟨hs.nil, ?_⟩
            refine H.one (i := 3) rfl (by kernel_rfl) ?_
            refine S.val hf hs (v := .agg #[.string (ba []), .string (ba x3)]) rfl rfl rfl (V.build (places := #[(0, 1), (1, 1)]) rfl Tryz.zeroValue32 Tryz.runUnderlying32 (by intro w; simp [Tryz.sizeOf9]) rfl rfl) (fun a hf => ?_)
            refine R.nil ?_
            refine X.then_ ?_
            refine ⟨hs.nil, ?_⟩
            refine H.one (i := 8) rfl (by kernel_rfl) ?_
            refine S.storeBox 0 hf hs rfl rfl [.string (ba []), .string (ba x3)] [.string (ba []), .string (ba x3)] rfl rfl rfl rfl rfl Tryz.sizeOf32 rfl rfl rfl rfl (fun a w hf hs => ?_)
            refine R.nil ?_
            refine X.then_ ?_
            refine ⟨hs.nil, ?_⟩
            refine H.val hf hs.nil (v := .bool y3) (i := 9) rfl rfl rfl rfl (by kernel_rfl) (by kernel_rfl) (by kernel_rfl) (V.pure rfl) (fun a hf => ?_)
            refine H.done (by kernel_rfl) ?_
            refine X.then_ ?_
            refine wp_ret ?_
            refine X.blk_ret ?_
            refine X.then_ret ?_
            exact L.ret hf (run_results2 Tryz.results43 (ResIs.box hf hs 0 rfl rfl Tryz.isAgg32 Tryz.sizeOf32 rfl rfl) (ResIs.tmp hf rfl)) ⟨(⟨[], x3⟩ : Layer), y3, rfl, h, hs.nil⟩
        · replace h := h.2 hc
          refine wp_skip ?_
          refine X.blk ?_
          refine X.then_ ?_
          refine wp_seq ?_
          refine R.list ?_
          refine S.val hf hs (v := .agg #[.string (ba []), .string (ba [])]) rfl rfl rfl (V.build (places := #[(0, 1), (1, 1)]) rfl Tryz.zeroValue32 Tryz.runUnderlying32 (by intro w; simp [Tryz.sizeOf9]) rfl rfl) (fun a hf => ?_)
          refine S.storeBox 0 hf hs rfl rfl [.string (ba []), .string (ba [])] [.string (ba []), .string (ba [])] rfl rfl rfl rfl rfl Tryz.sizeOf32 rfl rfl rfl rfl (fun a w hf hs => ?_)
          refine S.val hf hs (v := .bool false) rfl rfl rfl (V.pure rfl) (fun a hf => ?_)
          refine R.nil ?_
          refine X.then_ ?_
          refine wp_ret ?_
          exact L.ret hf (run_results2 Tryz.results43 (ResIs.box hf hs 0 rfl rfl Tryz.isAgg32 Tryz.sizeOf32 rfl rfl) (ResIs.tmp hf rfl)) ⟨(⟨[], []⟩ : Layer), false, rfl, h, hs.nil⟩
      · skip
        refine R.list ?_
        refine S.val hf hs (v := .slice w_A w_.length w_C) rfl rfl rfl (V.pure rfl) (fun a hf => ?_)
        refine S.val hf hs (v := .int .i64 (w_.length : Int)) rfl rfl rfl (V.len rfl rfl Tryz.runUnderlying74) (fun a hf => ?_)
        refine S.val hf hs (v := .bool ((w_.length : Int) == 2)) rfl rfl rfl (V.pure rfl) (fun a hf => ?_)
        refine S.split hf hs (b := (w_.length : Int) == 2) rfl rfl rfl (V.pure rfl) (fun hc a hf => ?_) (fun hc a hf => ?_)
        · replace h := h.1 hc
          refine S.val hf hs (v := .slice w_A w_.length w_C) rfl rfl rfl (V.pure rfl) (fun a hf => ?_)
          obtain ⟨h0x4, x4, hx4, h⟩ := h
          refine S.val hf hs (v := elemPtr w_A (0 * 1)) rfl rfl rfl (V.index rfl rfl rfl Tryz.runUnderlying74 Tryz.sizeOf9 (hv_w_.some_ (lt_of_get hx4)) h0x4 (lt_of_get hx4) rfl) (fun a hf => ?_)
          refine S.val hf hs (v := .string (ba x4)) rfl rfl rfl (V.loadEl (off := 0) (Ag.args _ _ _) (hv_w_.flat hx4) rfl rfl rfl Tryz.isAgg9 Tryz.sizeOf9 rfl rfl) (fun a hf => ?_)
          refine S.val hf hs (v := .bool (x4 == [108, 97, 121, 101, 114])) rfl rfl rfl (V.strCmp (x4 == [108, 97, 121, 101, 114]) rfl rfl rfl rfl) (fun a hf => ?_)
          refine S.val hf hs (v := .bool (x4 == [108, 97, 121, 101, 114])) rfl rfl rfl (V.pure rfl) (fun a hf => ?_)
          refine S.val hf hs (v := .bool (x4 == [108, 97, 121, 101, 114])) rfl rfl rfl (V.pure rfl) (fun a hf => ?_)
          refine R.nil ?_
          refine X.then_ ?_
          exact ⟨(x4 == [108, 97, 121, 101, 114]), h, (((hf.nil.cons (hf.get 31 _ rfl)).cons (hf.get 2 _ rfl)).cons (hf.get 0 _ rfl)), hs⟩
        · replace h := h.2 hc
          refine S.skip hf rfl rfl rfl (fun a hf => ?_)
          refine S.skip hf rfl rfl rfl (fun a hf => ?_)
          refine S.skip hf rfl rfl rfl (fun a hf => ?_)
          refine S.skip hf rfl rfl rfl (fun a hf => ?_)
          refine S.val hf hs (v := .bool false) rfl rfl rfl (V.pure rfl) (fun a hf => ?_)
          refine S.val hf hs (v := .bool false) rfl rfl rfl (V.pure rfl) (fun a hf => ?_)
          refine R.nil ?_
          refine X.then_ ?_
          exact ⟨false, h, (((hf.nil.cons (hf.get 31 _ rfl)).cons (hf.get 2 _ rfl)).cons (hf.get 0 _ rfl)), hs⟩
  · skip
    refine R.list ?_
    refine S.val hf hs (v := .slice w_A w_.length w_C) rfl rfl rfl (V.pure rfl) (fun a hf => ?_)
    refine S.val hf hs (v := .int .i64 (w_.length : Int)) rfl rfl rfl (V.len rfl rfl Tryz.runUnderlying74) (fun a hf => ?_)
    refine S.val hf hs (v := .bool ((w_.length : Int) == 3)) rfl rfl rfl (V.pure rfl) (fun a hf => ?_)
    refine S.split hf hs (b := (w_.length : Int) == 3) rfl rfl rfl (V.pure rfl) (fun hc a hf => ?_) (fun hc a hf => ?_)
    · replace h := h.1 hc
      refine S.val hf hs (v := .slice w_A w_.length w_C) rfl rfl rfl (V.pure rfl) (fun a hf => ?_)
      obtain ⟨h0x5, x5, hx5, h⟩ := h
      refine S.val hf hs (v := elemPtr w_A (0 * 1)) rfl rfl rfl (V.index rfl rfl rfl Tryz.runUnderlying74 Tryz.sizeOf9 (hv_w_.some_ (lt_of_get hx5)) h0x5 (lt_of_get hx5) rfl) (fun a hf => ?_)
      refine S.val hf hs (v := .string (ba x5)) rfl rfl rfl (V.loadEl (off := 0) (Ag.args _ _ _) (hv_w_.flat hx5) rfl rfl rfl Tryz.isAgg9 Tryz.sizeOf9 rfl rfl) (fun a hf => ?_)
      refine S.val hf hs (v := .bool (x5 == [99, 111, 112, 112, 101, 114])) rfl rfl rfl (V.strCmp (x5 == [99, 111, 112, 112, 101, 114]) rfl rfl rfl rfl) (fun a hf => ?_)
      refine S.val hf hs (v := .bool (x5 == [99, 111, 112, 112, 101, 114])) rfl rfl rfl (V.pure rfl) (fun a hf => ?_)
      refine S.val hf hs (v := .bool (x5 == [99, 111, 112, 112, 101, 114])) rfl rfl rfl (V.pure rfl) (fun a hf => ?_)
      refine R.nil ?_
      refine X.then_ ?_
      exact ⟨(x5 == [99, 111, 112, 112, 101, 114]), h, (((hf.nil.cons (hf.get 4 _ rfl)).cons (hf.get 2 _ rfl)).cons (hf.get 0 _ rfl)), hs⟩
    · replace h := h.2 hc
      refine S.skip hf rfl rfl rfl (fun a hf => ?_)
      refine S.skip hf rfl rfl rfl (fun a hf => ?_)
      refine S.skip hf rfl rfl rfl (fun a hf => ?_)
      refine S.skip hf rfl rfl rfl (fun a hf => ?_)
      refine S.val hf hs (v := .bool false) rfl rfl rfl (V.pure rfl) (fun a hf => ?_)
      refine S.val hf hs (v := .bool false) rfl rfl rfl (V.pure rfl) (fun a hf => ?_)
      refine R.nil ?_
      refine X.then_ ?_
      exact ⟨false, h, (((hf.nil.cons (hf.get 4 _ rfl)).cons (hf.get 2 _ rfl)).cons (hf.get 0 _ rfl)), hs⟩

set_option linter.unusedVariables false
def M_ref4_Read_k3 (Q : (List Material) → (List Layer) → Int → Int → Prop) (n2 : Int) (again1 : List Layer → List Material → Str → Int → Prop) (y2 : Str) (l5 : List Layer) (l6 : List Material) (c2 : Bool) : Prop :=
  cnd c2 (Q ([] : List Material) ([] : List Layer) n2 10) (again1 l5 l6 y2 (w64 (n2 + 1)))
def M_ref4_Read_k2 (Q : (List Material) → (List Layer) → Int → Int → Prop) (n2 : Int) (again1 : List Layer → List Material → Str → Int → Prop) (y2 : Str) (y3 : Bool) (l5 : List Layer) (l6 : List Material) (c1 : Bool) : Prop :=
  cnd (!c1) (M_ref4_Read_k3 Q n2 again1 y2 l5 l6 true) (M_ref4_Read_k3 Q n2 again1 y2 l5 l6 (!y3))
def M_ref4_Read_k4 (Q : (List Material) → (List Layer) → Int → Int → Prop) (l3 : List Layer) (l4 : List Material) (n2 : Int) (again1 : List Layer → List Material → Str → Int → Prop) (y2 : Str) (y3 : Bool) (y4 : (List Str)) (c3 : Bool) : Prop :=
  cnd c3 (M_ref4_readMaterial y4 fun y5 y6 => must (room (l4 ++ [y5]).length 40) (M_ref4_Read_k2 Q n2 again1 y2 y3 l3 (l4 ++ [y5]) y6)) (idx y4 0 fun x1 => cnd (!(x1 == [109, 97, 116, 101, 114, 105, 97, 108])) (M_ref4_readLayer y4 fun y7 y8 => must (room (l3 ++ [y7]).length 32) (M_ref4_Read_k2 Q n2 again1 y2 y3 (l3 ++ [y7]) l4 y8)) (M_ref4_Read_k2 Q n2 again1 y2 y3 l3 l4 false))
def M_ref4_Read_L1 (Q : (List Material) → (List Layer) → Int → Int → Prop) (again1 : List Layer → List Material → Str → Int → Prop) (l3 : List Layer) (l4 : List Material) (s2 : Str) (n2 : Int) : Prop :=
  cnd (!(s2 == [])) (M_strings_Cut s2 [10] fun y1 y2 y3 => M_strings_Split y1 [32] fun y4 => idx y4 0 fun x2 => cnd (x2 == [109, 97, 116, 101, 114, 105, 97, 108]) (M_ref4_Read_k4 Q l3 l4 n2 again1 y2 y3 y4 ((l3.length : Int) == 0)) (M_ref4_Read_k4 Q l3 l4 n2 again1 y2 y3 y4 false)) (M_ref4_CheckStack l4 l3 fun y9 => cnd (y9 != 0) (Q ([] : List Material) ([] : List Layer) 0 y9) (Q l4 l3 0 0))
def M_ref4_Read (text : Str) (Q : (List Material) → (List Layer) → Int → Int → Prop) : Prop :=
  cnd (decide ((text.length : Int) > 50000)) (Q ([] : List Material) ([] : List Layer) 0 2) (lp (fun again (s : List Layer × List Material × Str × Int) => M_ref4_Read_L1 Q (fun l3 l4 s2 n2 => again (l3, l4, s2, n2)) s.1 s.2.1 s.2.2.1 s.2.2.2) ((([] : List Layer)), ([] : List Material), text, 1))
set_option maxHeartbeats 1000000 in
theorem R_ref4_Read (text : Str) (w0 : World)  (Q : (List Material) → (List Layer) → Int → Int → Prop) (h : M_ref4_Read text Q) :
    Ret Tryz.prog 12 #[.string (ba text)] w0 fun v w' => ∃ (r0 : (List Material)) (r0A : Option Addr) (r0C : Nat) (r1 : (List Layer)) (r1A : Option Addr) (r1C : Nat) (r2 : Int) (r3 : Int), v = .tuple #[.slice r0A r0.length r0C, .slice r1A r1.length r1C, .int .i64 r2, .int .i64 r3] ∧ Q r0 r1 r2 r3 ∧ Sat w0 none_ [hown 29 r0A r0C r0, hown 32 r1A r1C r1] w' := by
  refine fn_enter Tryz.func12 rfl Tryz.ntmps12 rfl (fs := [(0, .string (ba text))]) rfl (fun a hf => ?_)
  have hs := Sat.start w0 none_
  unfold M_ref4_Read at h
  refine wp_seq ?_
  refine R.list ?_
  refine S.val hf hs (v := .slice none 0 0) rfl rfl rfl (V.pure rfl) (fun a hf => ?_)
  refine S.val hf hs (v := .slice none 0 0) rfl rfl rfl (V.pure rfl) (fun a hf => ?_)
  refine S.val hf hs (v := .int .i64 0) rfl rfl rfl (V.pure rfl) (fun a hf => ?_)
  refine S.val hf hs (v := .int .i64 0) rfl rfl rfl (V.pure rfl) (fun a hf => ?_)
  refine R.nil ?_
  refine X.then_ ?_
  refine wp_seq ?_
  refine wp_seq ?_
  refine R.list ?_
  refine S.val hf hs (v := .string (ba text)) rfl rfl rfl (V.pure rfl) (fun a hf => ?_)
  refine S.val hf hs (v := .int .i64 (text.length : Int)) rfl rfl rfl (V.lenStr rfl rfl Tryz.runUnderlying9) (fun a hf => ?_)
  refine S.val hf hs (v := .bool (decide ((text.length : Int) > 50000))) rfl rfl rfl (V.pure rfl) (fun a hf => ?_)
  refine R.nil ?_
  refine X.then_ ?_
  refine C.cond hf (b := decide ((text.length : Int) > 50000)) rfl (fun hc => ?_) (fun hc => ?_)
  · replace h := h.1 hc
    refine wp_seq ?_
    refine R.list ?_
    refine S.val hf hs (v := .slice none 0 0) rfl rfl rfl (V.pure rfl) (fun a hf => ?_)
    refine S.val hf hs (v := .slice none 0 0) rfl rfl rfl (V.pure rfl) (fun a hf => ?_)
    refine S.val hf hs (v := .int .i64 0) rfl rfl rfl (V.pure rfl) (fun a hf => ?_)
    refine S.val hf hs (v := .int .i64 2) rfl rfl rfl (V.pure rfl) (fun a hf => ?_)
    refine R.nil ?_
    refine X.then_ ?_
    refine wp_ret ?_
    refine X.then_ret ?_
    replace hs := hs.nilOwn (α := Material) 29
    replace hs := hs.nilOwn (α := Layer) 32
    replace hs := hs.front 1 rfl
    replace hs := hs.take 2
    exact L.ret hf (run_results4 Tryz.results12 (ResIs.tmp hf rfl) (ResIs.tmp hf rfl) (ResIs.tmp hf rfl) (ResIs.tmp hf rfl)) ⟨([] : List Material), none, 0, ([] : List Layer), none, 0, 0, 2, rfl, h, hs⟩
  · replace h := h.2 hc
    refine wp_skip ?_
    refine X.then_ ?_
    refine wp_seq ?_
    refine R.list ?_
    refine S.val hf hs (v := .slice none 0 0) rfl rfl rfl (V.pure rfl) (fun a hf => ?_)
    refine R.nil ?_
    refine X.then_ ?_
    refine wp_seq ?_
    refine R.list ?_
    refine S.val hf hs (v := .slice none 0 0) rfl rfl rfl (V.pure rfl) (fun a hf => ?_)
    refine R.nil ?_
    refine X.then_ ?_
    refine wp_seq ?_
    refine wp_seq ?_
    refine R.list ?_
    refine S.val hf hs (v := .int .i64 1) rfl rfl rfl (V.pure rfl) (fun a hf => ?_)
    refine R.nil ?_
    refine X.then_ ?_
    refine wp_block ?_
    replace hs := hs.nilOwn (α := Material) 29
    replace hs := hs.nilOwn (α := Layer) 32
    obtain ⟨kk, h⟩ := h
    refine C.loop (fun kk a w => ∃ (l3 : List Layer) (l3A : Option Addr) (l3C : Nat) (l4 : List Material) (l4A : Option Addr) (l4C : Nat) (s2 : Str) (n2 : Int), iterF (fun again (s : List Layer × List Material × Str × Int) => M_ref4_Read_L1 Q (fun l3 l4 s2 n2 => again (l3, l4, s2, n2)) s.1 s.2.1 s.2.2.1 s.2.2.2) kk (l3, l4, s2, n2) ∧ FrOk 79 [(0, .string (ba s2)), (6, .slice l4A l4.length l4C), (7, .slice l3A l3.length l3C), (8, .int .i64 n2)] a ∧ Sat w0 none_ [hown 32 l3A l3C l3, hown 29 l4A l4C l4] w) kk ⟨(([] : List Layer)), none, 0, ([] : List Material), none, 0, text, 1, h, ((((hf.nil.cons (hf.get 8 _ rfl)).cons (hf.get 7 _ rfl)).cons (hf.get 6 _ rfl)).cons (hf.get 0 _ rfl)), hs⟩ (fun a w ⟨_, _, _, _, _, _, _, _, h, _, _⟩ => h) ?_
    clear h hf hs
    rintro kk a w ⟨l3, l3A, l3C, l4, l4A, l4C, s2, n2, h, hf, hs⟩
    obtain ⟨again1, hagain1⟩ : ∃ X : List Layer → List Material → Str → Int → Prop, X = (fun l3 l4 s2 n2 => iterF (fun again (s : List Layer × List Material × Str × Int) => M_ref4_Read_L1 Q (fun l3 l4 s2 n2 => again (l3, l4, s2, n2)) s.1 s.2.1 s.2.2.1 s.2.2.2) kk (l3, l4, s2, n2)) := ⟨_, rfl⟩
    replace h : M_ref4_Read_L1 Q again1 l3 l4 s2 n2 := by rw [hagain1]; exact h
    unfold M_ref4_Read_L1 at h
    refine wp_seq ?_
    refine wp_seq ?_
    refine R.list ?_
    refine S.val hf hs (v := .string (ba s2)) rfl rfl rfl (V.pure rfl) (fun a hf => ?_)
    refine S.val hf hs (v := .bool (!(s2 == []))) rfl rfl rfl (V.strCmp (!(s2 == [])) rfl rfl rfl rfl) (fun a hf => ?_)
    refine R.nil ?_
    refine X.then_ ?_
    refine C.cond hf (b := !(s2 == [])) rfl (fun hc => ?_) (fun hc => ?_)
    · replace h := h.1 hc
      refine wp_skip ?_
      refine X.then_ ?_
      refine wp_seq ?_
      refine wp_block ?_
      refine wp_seq ?_
      refine R.list ?_
      refine S.val hf hs (v := .string (ba s2)) rfl rfl rfl (V.pure rfl) (fun a hf => ?_)
      refine S.call hf rfl rfl rfl (call_fn (vs := [.string (ba s2), .string (ba [10])]) rfl rfl rfl Tryz.call38) (R_strings_Cut s2 [10] _  _ h) (fun v a w' hf hr => ?_)
      obtain ⟨y1, y2, y3, rfl, h2, hs2⟩ := hr
      replace h := h2; replace hs := hs.call hs2; clear h2 hs2
      refine S.val hf hs (v := .tuple #[.string (ba y1), .string (ba y2), .bool y3]) rfl rfl rfl (V.pure rfl) (fun a hf => ?_)
      refine S.val hf hs (v := .string (ba y1)) rfl rfl rfl (V.pure rfl) (fun a hf => ?_)
      refine S.val hf hs (v := .string (ba y2)) rfl rfl rfl (V.pure rfl) (fun a hf => ?_)
      refine S.val hf hs (v := .bool y3) rfl rfl rfl (V.pure rfl) (fun a hf => ?_)
      refine S.val hf hs (v := .string (ba y1)) rfl rfl rfl (V.pure rfl) (fun a hf => ?_)
      refine S.val hf hs (v := .string (ba y2)) rfl rfl rfl (V.pure rfl) (fun a hf => ?_)
      refine S.val hf hs (v := .bool y3) rfl rfl rfl (V.pure rfl) (fun a hf => ?_)
      refine R.nil ?_
      refine X.then_ ?_
      refine wp_seq ?_
      refine R.list ?_
      refine S.val hf hs (v := .string (ba y1)) rfl rfl rfl (V.pure rfl) (fun a hf => ?_)
      refine S.call hf rfl rfl rfl (call_fn (vs := [.string (ba y1), .string (ba [32])]) rfl rfl rfl Tryz.call41) (R_strings_Split y1 [32] _  _ h) (fun v a w' hf hr => ?_)
      obtain ⟨y4, y4A, y4C, rfl, h2, hs2⟩ := hr
      replace h := h2; replace hs := hs.call hs2; clear h2 hs2
      refine S.val hf hs (v := .slice y4A y4.length y4C) rfl rfl rfl (V.pure rfl) (fun a hf => ?_)
      refine R.nil ?_
      refine X.then_ ?_
      refine wp_seq ?_
      refine R.list ?_
      refine S.val hf hs (v := .bool false) rfl rfl rfl (V.pure rfl) (fun a hf => ?_)
      refine R.nil ?_
      refine X.then_ ?_
      refine wp_seq ?_
      refine C.cut (J := fun a w => ∃ (l5 : List Layer) (l5A : Option Addr) (l5C : Nat) (l6 : List Material) (l6A : Option Addr) (l6C : Nat) (c1 : Bool), M_ref4_Read_k2 Q n2 again1 y2 y3 l5 l6 c1 ∧ FrOk 79 [(6, .slice l6A l6.length l6C), (7, .slice l5A l5.length l5C), (8, .int .i64 n2), (10, .string (ba y2)), (11, .bool y3), (13, .bool c1)] a ∧ Sat w0 none_ [hown 9 y4A y4C y4, hown 32 l5A l5C l5, hown 29 l6A l6C l6] w) ?_ ?_
      · rintro a w ⟨l5, l5A, l5C, l6, l6A, l6C, c1, h, hf, hs⟩
        unfold M_ref4_Read_k2 at h
        refine wp_seq ?_
        refine wp_seq ?_
        refine C.cut (J := fun a w => ∃ (c2 : Bool), M_ref4_Read_k3 Q n2 again1 y2 l5 l6 c2 ∧ FrOk 79 [(6, .slice l6A l6.length l6C), (7, .slice l5A l5.length l5C), (8, .int .i64 n2), (10, .string (ba y2)), (68, .bool c2)] a ∧ Sat w0 none_ [hown 9 y4A y4C y4, hown 32 l5A l5C l5, hown 29 l6A l6C l6] w) ?_ ?_
        · rintro a w ⟨c2, h, hf, hs⟩
          unfold M_ref4_Read_k3 at h
          refine C.cond hf (b := c2) rfl (fun hc => ?_) (fun hc => ?_)
          · replace h := h.1 hc
            refine wp_seq ?_
            refine R.list ?_
            refine S.val hf hs (v := .int .i64 n2) rfl rfl rfl (V.pure rfl) (fun a hf => ?_)
            refine S.val hf hs (v := .slice none 0 0) rfl rfl rfl (V.pure rfl) (fun a hf => ?_)
            refine S.val hf hs (v := .slice none 0 0) rfl rfl rfl (V.pure rfl) (fun a hf => ?_)
            refine S.val hf hs (v := .int .i64 n2) rfl rfl rfl (V.pure rfl) (fun a hf => ?_)
            refine S.val hf hs (v := .int .i64 10) rfl rfl rfl (V.pure rfl) (fun a hf => ?_)
            refine R.nil ?_
            refine X.then_ ?_
            refine wp_ret ?_
            refine X.then_ret ?_
            refine X.blk_ret ?_
            refine X.then_ret ?_
            refine X.then_ret ?_
            refine X.blk_ret ?_
            refine X.then_ret ?_
            replace hs := hs.nilOwn (α := Material) 29
            replace hs := hs.nilOwn (α := Layer) 32
            replace hs := hs.front 1 rfl
            replace hs := hs.take 2
            exact L.ret hf (run_results4 Tryz.results12 (ResIs.tmp hf rfl) (ResIs.tmp hf rfl) (ResIs.tmp hf rfl) (ResIs.tmp hf rfl)) ⟨([] : List Material), none, 0, ([] : List Layer), none, 0, n2, 10, rfl, h, hs⟩
          · replace h := h.2 hc
            refine wp_skip ?_
            refine X.then_ ?_
            refine R.list ?_
            refine S.val hf hs (v := .string (ba y2)) rfl rfl rfl (V.pure rfl) (fun a hf => ?_)
            refine S.val hf hs (v := .string (ba y2)) rfl rfl rfl (V.pure rfl) (fun a hf => ?_)
            refine R.nil ?_
            refine X.blk ?_
            refine X.then_ ?_
            refine R.list ?_
            refine S.val hf hs (v := .int .i64 n2) rfl rfl rfl (V.pure rfl) (fun a hf => ?_)
            refine S.val hf hs (v := .int .i64 (w64 (n2 + 1))) rfl rfl rfl (V.pure rfl) (fun a hf => ?_)
            refine S.val hf hs (v := .int .i64 (w64 (n2 + 1))) rfl rfl rfl (V.pure rfl) (fun a hf => ?_)
            refine R.nil ?_
            refine X.then_ ?_
            exact ⟨l5, l5A, l5C, l6, l6A, l6C, y2, (w64 (n2 + 1)), (by rw [hagain1] at h; exact h), ((((hf.nil.cons (hf.get 8 _ rfl)).cons (hf.get 7 _ rfl)).cons (hf.get 6 _ rfl)).cons (hf.get 0 _ rfl)), hs.drop⟩
        · skip
          refine R.list ?_
          refine S.val hf hs (v := .bool c1) rfl rfl rfl (V.pure rfl) (fun a hf => ?_)
          refine S.val hf hs (v := .bool (!c1)) rfl rfl rfl (V.pure rfl) (fun a hf => ?_)
          refine S.split hf hs (b := !c1) rfl rfl rfl (V.pure rfl) (fun hc a hf => ?_) (fun hc a hf => ?_)
          · replace h := h.1 hc
            refine S.skip hf rfl rfl rfl (fun a hf => ?_)
            refine S.skip hf rfl rfl rfl (fun a hf => ?_)
            refine S.val hf hs (v := .bool true) rfl rfl rfl (V.pure rfl) (fun a hf => ?_)
            refine R.nil ?_
            refine X.then_ ?_
            exact ⟨true, h, (((((hf.nil.cons (hf.get 68 _ rfl)).cons (hf.get 10 _ rfl)).cons (hf.get 8 _ rfl)).cons (hf.get 7 _ rfl)).cons (hf.get 6 _ rfl)), hs⟩
          · replace h := h.2 hc
            refine S.val hf hs (v := .bool y3) rfl rfl rfl (V.pure rfl) (fun a hf => ?_)
            refine S.val hf hs (v := .bool (!y3)) rfl rfl rfl (V.pure rfl) (fun a hf => ?_)
            refine S.val hf hs (v := .bool (!y3)) rfl rfl rfl (V.pure rfl) (fun a hf => ?_)
            refine R.nil ?_
            refine X.then_ ?_
            exact ⟨(!y3), h, (((((hf.nil.cons (hf.get 68 _ rfl)).cons (hf.get 10 _ rfl)).cons (hf.get 8 _ rfl)).cons (hf.get 7 _ rfl)).cons (hf.get 6 _ rfl)), hs⟩
      · skip
        refine wp_seq ?_
        refine C.cut (J := fun a w => ∃ (c3 : Bool), M_ref4_Read_k4 Q l3 l4 n2 again1 y2 y3 y4 c3 ∧ FrOk 79 [(6, .slice l4A l4.length l4C), (7, .slice l3A l3.length l3C), (8, .int .i64 n2), (10, .string (ba y2)), (11, .bool y3), (12, .slice y4A y4.length y4C), (13, .bool false), (40, .bool c3)] a ∧ Sat w0 none_ [hown 9 y4A y4C y4, hown 32 l3A l3C l3, hown 29 l4A l4C l4] w) ?_ ?_
        · rintro a w ⟨c3, h, hf, hs⟩
          unfold M_ref4_Read_k4 at h
          refine C.cond hf (b := c3) rfl (fun hc => ?_) (fun hc => ?_)
          · replace h := h.1 hc
            refine wp_seq ?_
            refine R.list ?_
            refine S.alloc hf hs rfl rfl rfl [.string (ba []), .int .i64 0, .int .i64 0, .int .i64 0] rfl Tryz.zeroValue29 rfl (fun g1 a w hf hs => ?_)
            refine R.nil ?_
            refine X.then_ ?_
            refine wp_seq ?_
            refine R.list ?_
            refine S.val hf hs (v := .slice y4A y4.length y4C) rfl rfl rfl (V.pure rfl) (fun a hf => ?_)
            refine S.call hf rfl rfl rfl (call_fn (vs := [.slice y4A y4.length y4C]) rfl rfl rfl Tryz.call42) (R_ref4_readMaterial y4 _ y4A y4C (hs.ownView 1 rfl) _ h) (fun v a w' hf hr => ?_)
            obtain ⟨y5, y6, rfl, h2, hs2⟩ := hr
            replace h := h2; replace hs := hs.call hs2; clear h2 hs2
            refine S.val hf hs (v := .tuple #[.agg #[.string (ba y5.Name), .int .i64 y5.Kind, .int .i64 y5.Thick, .int .i64 y5.Grow], .bool y6]) rfl rfl rfl (V.pure rfl) (fun a hf => ?_)
            refine S.val hf hs (v := .agg #[.string (ba y5.Name), .int .i64 y5.Kind, .int .i64 y5.Thick, .int .i64 y5.Grow]) rfl rfl rfl (V.pure rfl) (fun a hf => ?_)
            refine S.val hf hs (v := .bool y6) rfl rfl rfl (V.pure rfl) (fun a hf => ?_)
            refine S.storeBox 0 hf hs rfl rfl [.string (ba y5.Name), .int .i64 y5.Kind, .int .i64 y5.Thick, .int .i64 y5.Grow] [.string (ba y5.Name), .int .i64 y5.Kind, .int .i64 y5.Thick, .int .i64 y5.Grow] rfl rfl rfl rfl rfl Tryz.sizeOf29 rfl rfl rfl rfl (fun a w hf hs => ?_)
            refine S.val hf hs (v := .bool y6) rfl rfl rfl (V.pure rfl) (fun a hf => ?_)
            refine R.nil ?_
            refine X.then_ ?_
            refine R.list ?_
            refine S.val hf hs (v := .slice l4A l4.length l4C) rfl rfl rfl (V.pure rfl) (fun a hf => ?_)
            refine S.val hf hs (v := .agg #[.string (ba y5.Name), .int .i64 y5.Kind, .int .i64 y5.Thick, .int .i64 y5.Grow]) rfl rfl rfl (V.loadBox 0 rfl rfl rfl Tryz.isAgg29 Tryz.sizeOf29 rfl rfl) (fun a hf => ?_)
            refine S.build1 hf hs rfl rfl rfl (α := Material) y5 rfl rfl rfl Tryz.runUnderlying22 Tryz.sizeOf29 Tryz.zeroValue29 rfl (by decide) (fun A1 a w hf hs => ?_)
            obtain ⟨hroom, h⟩ := h
            refine S.appendCells 4 hf hs rfl rfl rfl rfl rfl rfl rfl Tryz.underlying22 info29 rfl hroom ((hs.ownView 0 rfl).some_ (i := 0) (by simp)) (hs.ownView 0 rfl) (fun A2 C1 a w hf hs => ?_)
            replace hs := hs.drop
            refine S.val hf hs (v := .slice A2 (l4 ++ [y5]).length C1) rfl rfl rfl (V.pure rfl) (fun a hf => ?_)
            refine R.nil ?_
            refine X.then_ ?_
            exact ⟨l3, l3A, l3C, (l4 ++ [y5]), A2, C1, y6, h, ((((((hf.nil.cons (hf.get 13 _ rfl)).cons (hf.get 11 _ rfl)).cons (hf.get 10 _ rfl)).cons (hf.get 8 _ rfl)).cons (hf.get 7 _ rfl)).cons (hf.get 6 _ rfl)), hs.drop⟩
          · replace h := h.2 hc
            refine wp_seq ?_
            refine R.list ?_
            refine S.val hf hs (v := .slice y4A y4.length y4C) rfl rfl rfl (V.pure rfl) (fun a hf => ?_)
            obtain ⟨h0x1, x1, hx1, h⟩ := h
            refine S.val hf hs (v := elemPtr y4A (0 * 1)) rfl rfl rfl (V.index rfl rfl rfl Tryz.runUnderlying74 Tryz.sizeOf9 (hs.ownSome 0 rfl (lt_of_get hx1)) h0x1 (lt_of_get hx1) rfl) (fun a hf => ?_)
            refine S.val hf hs (v := .string (ba x1)) rfl rfl rfl (V.loadOwn (off := 0) 0 rfl hx1 rfl rfl rfl Tryz.isAgg9 Tryz.sizeOf9 rfl rfl) (fun a hf => ?_)
            refine S.val hf hs (v := .bool (!(x1 == [109, 97, 116, 101, 114, 105, 97, 108]))) rfl rfl rfl (V.strCmp (!(x1 == [109, 97, 116, 101, 114, 105, 97, 108])) rfl rfl rfl rfl) (fun a hf => ?_)
            refine R.nil ?_
            refine X.then_ ?_
            refine C.cond hf (b := !(x1 == [109, 97, 116, 101, 114, 105, 97, 108])) rfl (fun hc => ?_) (fun hc => ?_)
            · replace h := h.1 hc
              refine wp_seq ?_
              refine R.list ?_
              refine S.alloc hf hs rfl rfl rfl [.string (ba []), .string (ba [])] rfl Tryz.zeroValue32 rfl (fun g2 a w hf hs => ?_)
              refine R.nil ?_
              refine X.then_ ?_
              refine wp_seq ?_
              refine R.list ?_
              refine S.val hf hs (v := .slice y4A y4.length y4C) rfl rfl rfl (V.pure rfl) (fun a hf => ?_)
              refine S.call hf rfl rfl rfl (call_fn (vs := [.slice y4A y4.length y4C]) rfl rfl rfl Tryz.call43) (R_ref4_readLayer y4 _ y4A y4C (hs.ownView 1 rfl) _ h) (fun v a w' hf hr => ?_)
              obtain ⟨y7, y8, rfl, h2, hs2⟩ := hr
              replace h := h2; replace hs := hs.call hs2; clear h2 hs2
              refine S.val hf hs (v := .tuple #[.agg #[.string (ba y7.Name), .string (ba y7.Material)], .bool y8]) rfl rfl rfl (V.pure rfl) (fun a hf => ?_)
              refine S.val hf hs (v := .agg #[.string (ba y7.Name), .string (ba y7.Material)]) rfl rfl rfl (V.pure rfl) (fun a hf => ?_)
              refine S.val hf hs (v := .bool y8) rfl rfl rfl (V.pure rfl) (fun a hf => ?_)
              refine S.storeBox 0 hf hs rfl rfl [.string (ba y7.Name), .string (ba y7.Material)] [.string (ba y7.Name), .string (ba y7.Material)] rfl rfl rfl rfl rfl Tryz.sizeOf32 rfl rfl rfl rfl (fun a w hf hs => ?_)
              refine S.val hf hs (v := .bool y8) rfl rfl rfl (V.pure rfl) (fun a hf => ?_)
              refine R.nil ?_
              refine X.then_ ?_
              refine R.list ?_
              refine S.val hf hs (v := .slice l3A l3.length l3C) rfl rfl rfl (V.pure rfl) (fun a hf => ?_)
              refine S.val hf hs (v := .agg #[.string (ba y7.Name), .string (ba y7.Material)]) rfl rfl rfl (V.loadBox 0 rfl rfl rfl Tryz.isAgg32 Tryz.sizeOf32 rfl rfl) (fun a hf => ?_)
              refine S.build1 hf hs rfl rfl rfl (α := Layer) y7 rfl rfl rfl Tryz.runUnderlying23 Tryz.sizeOf32 Tryz.zeroValue32 rfl (by decide) (fun A3 a w hf hs => ?_)
              obtain ⟨hroom, h⟩ := h
              refine S.appendCells 3 hf hs rfl rfl rfl rfl rfl rfl rfl Tryz.underlying23 info32 rfl hroom ((hs.ownView 0 rfl).some_ (i := 0) (by simp)) (hs.ownView 0 rfl) (fun A4 C2 a w hf hs => ?_)
              replace hs := hs.drop
              refine S.val hf hs (v := .slice A4 (l3 ++ [y7]).length C2) rfl rfl rfl (V.pure rfl) (fun a hf => ?_)
              refine R.nil ?_
              refine X.then_ ?_
              exact ⟨(l3 ++ [y7]), A4, C2, l4, l4A, l4C, y8, h, ((((((hf.nil.cons (hf.get 13 _ rfl)).cons (hf.get 11 _ rfl)).cons (hf.get 10 _ rfl)).cons (hf.get 8 _ rfl)).cons (hf.get 7 _ rfl)).cons (hf.get 6 _ rfl)), hs.drop⟩
            · replace h := h.2 hc
              refine wp_skip ?_
              refine X.then_ ?_
              exact ⟨l3, l3A, l3C, l4, l4A, l4C, false, h, ((((((hf.nil.cons (hf.get 13 _ rfl)).cons (hf.get 11 _ rfl)).cons (hf.get 10 _ rfl)).cons (hf.get 8 _ rfl)).cons (hf.get 7 _ rfl)).cons (hf.get 6 _ rfl)), hs⟩
        · skip
          refine R.list ?_
          refine S.val hf hs (v := .slice y4A y4.length y4C) rfl rfl rfl (V.pure rfl) (fun a hf => ?_)
          obtain ⟨h0x2, x2, hx2, h⟩ := h
          refine S.val hf hs (v := elemPtr y4A (0 * 1)) rfl rfl rfl (V.index rfl rfl rfl Tryz.runUnderlying74 Tryz.sizeOf9 (hs.ownSome 0 rfl (lt_of_get hx2)) h0x2 (lt_of_get hx2) rfl) (fun a hf => ?_)
          refine S.val hf hs (v := .string (ba x2)) rfl rfl rfl (V.loadOwn (off := 0) 0 rfl hx2 rfl rfl rfl Tryz.isAgg9 Tryz.sizeOf9 rfl rfl) (fun a hf => ?_)
          refine S.val hf hs (v := .bool (x2 == [109, 97, 116, 101, 114, 105, 97, 108])) rfl rfl rfl (V.strCmp (x2 == [109, 97, 116, 101, 114, 105, 97, 108]) rfl rfl rfl rfl) (fun a hf => ?_)
          refine S.split hf hs (b := x2 == [109, 97, 116, 101, 114, 105, 97, 108]) rfl rfl rfl (V.pure rfl) (fun hc a hf => ?_) (fun hc a hf => ?_)
          · replace h := h.1 hc
            refine S.val hf hs (v := .slice l3A l3.length l3C) rfl rfl rfl (V.pure rfl) (fun a hf => ?_)
            refine S.val hf hs (v := .int .i64 (l3.length : Int)) rfl rfl rfl (V.len rfl rfl Tryz.runUnderlying23) (fun a hf => ?_)
            refine S.val hf hs (v := .bool ((l3.length : Int) == 0)) rfl rfl rfl (V.pure rfl) (fun a hf => ?_)
            refine S.val hf hs (v := .bool ((l3.length : Int) == 0)) rfl rfl rfl (V.pure rfl) (fun a hf => ?_)
            refine R.nil ?_
            refine X.then_ ?_
            exact ⟨((l3.length : Int) == 0), h, ((((((((hf.nil.cons (hf.get 40 _ rfl)).cons (hf.get 13 _ rfl)).cons (hf.get 12 _ rfl)).cons (hf.get 11 _ rfl)).cons (hf.get 10 _ rfl)).cons (hf.get 8 _ rfl)).cons (hf.get 7 _ rfl)).cons (hf.get 6 _ rfl)), hs⟩
          · replace h := h.2 hc
            refine S.skip hf rfl rfl rfl (fun a hf => ?_)
            refine S.skip hf rfl rfl rfl (fun a hf => ?_)
            refine S.skip hf rfl rfl rfl (fun a hf => ?_)
            refine S.val hf hs (v := .bool false) rfl rfl rfl (V.pure rfl) (fun a hf => ?_)
            refine R.nil ?_
            refine X.then_ ?_
            exact ⟨false, h, ((((((((hf.nil.cons (hf.get 40 _ rfl)).cons (hf.get 13 _ rfl)).cons (hf.get 12 _ rfl)).cons (hf.get 11 _ rfl)).cons (hf.get 10 _ rfl)).cons (hf.get 8 _ rfl)).cons (hf.get 7 _ rfl)).cons (hf.get 6 _ rfl)), hs⟩
    · replace h := h.2 hc
      refine wp_exit ?_
      refine X.then_exit ?_
      refine X.then_exit ?_
      refine X.blk_exit ?_
      refine X.then_ ?_
      refine wp_seq ?_
      refine wp_seq ?_
      refine R.list ?_
      refine S.val hf hs (v := .slice l4A l4.length l4C) rfl rfl rfl (V.pure rfl) (fun a hf => ?_)
      refine S.val hf hs (v := .slice l3A l3.length l3C) rfl rfl rfl (V.pure rfl) (fun a hf => ?_)
      refine S.call hf rfl rfl rfl (call_fn (vs := [.slice l4A l4.length l4C, .slice l3A l3.length l3C]) rfl rfl rfl Tryz.call44) (R_ref4_CheckStack l4 l3 _ l4A l4C (hs.ownView 1 rfl) l3A l3C (hs.ownView 0 rfl) _ h) (fun v a w' hf hr => ?_)
      obtain ⟨y9, rfl, h2, hs2⟩ := hr
      replace h := h2; replace hs := hs.call hs2; clear h2 hs2
      refine S.val hf hs (v := .int .i64 y9) rfl rfl rfl (V.pure rfl) (fun a hf => ?_)
      refine R.nil ?_
      refine X.then_ ?_
      refine wp_seq ?_
      refine R.list ?_
      refine S.val hf hs (v := .int .i64 y9) rfl rfl rfl (V.pure rfl) (fun a hf => ?_)
      refine S.val hf hs (v := .bool (y9 != 0)) rfl rfl rfl (V.pure rfl) (fun a hf => ?_)
      refine R.nil ?_
      refine X.then_ ?_
      refine C.cond hf (b := y9 != 0) rfl (fun hc => ?_) (fun hc => ?_)
      · replace h := h.1 hc
        refine wp_seq ?_
        refine R.list ?_
        refine S.val hf hs (v := .int .i64 y9) rfl rfl rfl (V.pure rfl) (fun a hf => ?_)
        refine S.val hf hs (v := .slice none 0 0) rfl rfl rfl (V.pure rfl) (fun a hf => ?_)
        refine S.val hf hs (v := .slice none 0 0) rfl rfl rfl (V.pure rfl) (fun a hf => ?_)
        refine S.val hf hs (v := .int .i64 0) rfl rfl rfl (V.pure rfl) (fun a hf => ?_)
        refine S.val hf hs (v := .int .i64 y9) rfl rfl rfl (V.pure rfl) (fun a hf => ?_)
        refine R.nil ?_
        refine X.then_ ?_
        refine wp_ret ?_
        refine X.then_ret ?_
        replace hs := hs.nilOwn (α := Material) 29
        replace hs := hs.nilOwn (α := Layer) 32
        replace hs := hs.front 1 rfl
        replace hs := hs.take 2
        exact L.ret hf (run_results4 Tryz.results12 (ResIs.tmp hf rfl) (ResIs.tmp hf rfl) (ResIs.tmp hf rfl) (ResIs.tmp hf rfl)) ⟨([] : List Material), none, 0, ([] : List Layer), none, 0, 0, y9, rfl, h, hs⟩
      · replace h := h.2 hc
        refine wp_skip ?_
        refine X.then_ ?_
        refine wp_seq ?_
        refine R.list ?_
        refine S.val hf hs (v := .slice l4A l4.length l4C) rfl rfl rfl (V.pure rfl) (fun a hf => ?_)
        refine S.val hf hs (v := .slice l3A l3.length l3C) rfl rfl rfl (V.pure rfl) (fun a hf => ?_)
        refine S.val hf hs (v := .slice l4A l4.length l4C) rfl rfl rfl (V.pure rfl) (fun a hf => ?_)
        refine S.val hf hs (v := .slice l3A l3.length l3C) rfl rfl rfl (V.pure rfl) (fun a hf => ?_)
        refine S.val hf hs (v := .int .i64 0) rfl rfl rfl (V.pure rfl) (fun a hf => ?_)
        refine S.val hf hs (v := .int .i64 0) rfl rfl rfl (V.pure rfl) (fun a hf => ?_)
        refine R.nil ?_
        refine X.then_ ?_
        refine wp_ret ?_
        replace hs := hs.front 1 rfl
        replace hs := hs.take 2
        exact L.ret hf (run_results4 Tryz.results12 (ResIs.tmp hf rfl) (ResIs.tmp hf rfl) (ResIs.tmp hf rfl) (ResIs.tmp hf rfl)) ⟨l4, l4A, l4C, l3, l3A, l3C, 0, 0, rfl, h, hs⟩

set_option linter.unusedVariables false
def M_equal_layer_L1 (s2 : (List Layer)) (Q : Bool → Prop) (k1 : Nat) (xk1 : Layer)  (next1 : Prop) : Prop :=
  idx s2 (k1 : Int) fun x1 => cnd (!(decide (xk1 = x1))) (Q false) (next1)
def M_equal_layer (s1 : (List Layer)) (s2 : (List Layer)) (Q : Bool → Prop) : Prop :=
  cnd ((s1.length : Int) != (s2.length : Int)) (Q false) (forIn' (fun k x (s : Unit) next => M_equal_layer_L1 s2 Q k x (next ())) (fun (s : Unit) => Q true) s1 0 ())
set_option maxHeartbeats 1000000 in
theorem R_equal_layer (s1 : (List Layer)) (s2 : (List Layer)) (w0 : World) (s1A : Option Addr) (s1C : Nat) (hv_s1 : View w0 (old w0 none_) s1A s1C s1) (s2A : Option Addr) (s2C : Nat) (hv_s2 : View w0 (old w0 none_) s2A s2C s2) (Q : Bool → Prop) (h : M_equal_layer s1 s2 Q) :
    Ret Tryz.prog 14 #[.slice s1A s1.length s1C, .slice s2A s2.length s2C] w0 fun v w' => ∃ (r0 : Bool), v = .bool r0 ∧ Q r0 ∧ Sat w0 none_ [] w' := by
  refine fn_enter Tryz.func14 rfl Tryz.ntmps14 rfl (fs := [(0, .slice s1A s1.length s1C), (1, .slice s2A s2.length s2C)]) rfl (fun a hf => ?_)
  have hs := Sat.start w0 none_
  unfold M_equal_layer at h
  refine wp_seq ?_
  refine R.list ?_
  refine S.val hf hs (v := .bool false) rfl rfl rfl (V.pure rfl) (fun a hf => ?_)
  refine R.nil ?_
  refine X.then_ ?_
  refine wp_seq ?_
  refine wp_seq ?_
  refine R.list ?_
  refine S.val hf hs (v := .slice s1A s1.length s1C) rfl rfl rfl (V.pure rfl) (fun a hf => ?_)
  refine S.val hf hs (v := .int .i64 (s1.length : Int)) rfl rfl rfl (V.len rfl rfl Tryz.runUnderlying23) (fun a hf => ?_)
  refine S.val hf hs (v := .slice s2A s2.length s2C) rfl rfl rfl (V.pure rfl) (fun a hf => ?_)
  refine S.val hf hs (v := .int .i64 (s2.length : Int)) rfl rfl rfl (V.len rfl rfl Tryz.runUnderlying23) (fun a hf => ?_)
  refine S.val hf hs (v := .bool ((s1.length : Int) != (s2.length : Int))) rfl rfl rfl (V.pure rfl) (fun a hf => ?_)
  refine R.nil ?_
  refine X.then_ ?_
  refine C.cond hf (b := (s1.length : Int) != (s2.length : Int)) rfl (fun hc => ?_) (fun hc => ?_)
  · replace h := h.1 hc
    refine wp_seq ?_
    refine R.list ?_
    refine S.val hf hs (v := .bool false) rfl rfl rfl (V.pure rfl) (fun a hf => ?_)
    refine R.nil ?_
    refine X.then_ ?_
    refine wp_ret ?_
    refine X.then_ret ?_
    exact L.ret hf (run_results1 Tryz.results14 (ResIs.tmp hf rfl)) ⟨false, rfl, h, hs.nil⟩
  · replace h := h.2 hc
    refine wp_skip ?_
    refine X.then_ ?_
    refine wp_seq ?_
    refine wp_seq ?_
    refine R.list ?_
    refine S.val hf hs (v := .slice s1A s1.length s1C) rfl rfl rfl (V.pure rfl) (fun a hf => ?_)
    refine S.val hf hs (v := .int .i64 (s1.length : Int)) rfl rfl rfl (V.len rfl rfl Tryz.runUnderlying23) (fun a hf => ?_)
    refine S.val hf hs (v := .int .i64 0) rfl rfl rfl (V.pure rfl) (fun a hf => ?_)
    refine R.nil ?_
    refine X.then_ ?_
    refine wp_block ?_
    have hlenk1 := hv_s1.len64
    refine C.range (fun (ll : List Layer) a w => ∃ (k1 : Nat) , s1.drop k1 = ll ∧ k1 + ll.length = s1.length ∧ forIn' (fun k x (s : Unit) next => M_equal_layer_L1 s2 Q k x (next ())) (fun (s : Unit) => Q true) ll k1 () ∧ FrOk 26 [(13, .int .i64 (k1 : Int)), (0, .slice s1A s1.length s1C), (1, .slice s2A s2.length s2C), (12, .int .i64 (s1.length : Int))] a ∧ Sat w0 none_ [] w) s1 ⟨0, rfl, Nat.zero_add _, h, ((((hf.nil.cons (hf.get 12 _ rfl)).cons (hf.get 1 _ rfl)).cons (hf.get 0 _ rfl)).cons (hf.get 13 _ rfl)), hs⟩ ?_
    clear h hf hs
    rintro llk1 a w ⟨k1, hlk1, hkk1, h, hf, hs⟩
    cases llk1 with
    | nil =>
      have hc := range_done hkk1
      replace h : Q true := h
      refine wp_seq ?_
      refine R.list ?_
      refine S.val hf hs (v := .bool false) rfl rfl rfl (V.cmp false rfl rfl rfl rfl hc) (fun a hf => ?_)
      refine R.nil ?_
      refine X.then_ ?_
      refine wp_seq ?_
      refine C.no hf rfl ?_
      refine wp_exit ?_
      refine X.then_exit ?_
      refine X.then_exit ?_
      refine X.blk_exit ?_
      refine X.then_ ?_
      refine wp_seq ?_
      refine R.list ?_
      refine S.val hf hs (v := .bool true) rfl rfl rfl (V.pure rfl) (fun a hf => ?_)
      refine R.nil ?_
      refine X.then_ ?_
      refine wp_ret ?_
      exact L.ret hf (run_results1 Tryz.results14 (ResIs.tmp hf rfl)) ⟨true, rfl, h, hs.nil⟩
    | cons xk1 llk1 =>
      have hltk1 := range_lt hkk1; have hc := range_go hkk1; have hxk1 := range_get hlk1
      obtain ⟨next1, hnext1⟩ : ∃ X : Prop, X = (forIn' (fun k x (s : Unit) next => M_equal_layer_L1 s2 Q k x (next ())) (fun (s : Unit) => Q true) llk1 (k1 + 1) ()) := ⟨_, rfl⟩
      replace h : M_equal_layer_L1 s2 Q k1 xk1  next1 := by rw [hnext1]; exact h
      unfold M_equal_layer_L1 at h
      refine wp_seq ?_
      refine R.list ?_
      refine S.val hf hs (v := .bool true) rfl rfl rfl (V.cmp true rfl rfl rfl rfl hc) (fun a hf => ?_)
      refine R.nil ?_
      refine X.then_ ?_
      refine wp_seq ?_
      refine C.yes hf rfl ?_
      refine wp_skip ?_
      refine X.then_ ?_
      refine wp_seq ?_
      refine wp_block ?_
      refine wp_seq ?_
      refine R.list ?_
      refine S.val hf hs (v := .int .i64 (k1 : Int)) rfl rfl rfl (V.pure rfl) (fun a hf => ?_)
      refine S.val hf hs (v := .int .i64 (k1 : Int)) rfl rfl rfl (V.pure rfl) (fun a hf => ?_)
      refine R.nil ?_
      refine X.then_ ?_
      refine wp_seq ?_
      refine R.draw mo (by kernel_rfl) hs ?_
      refine D.val hf (v := .slice s1A s1.length s1C) rfl rfl rfl (V.pure rfl) (fun a hf => ?_)
      refine D.val hf (v := .int .i64 (k1 : Int)) rfl rfl rfl (V.pure rfl) (fun a hf => ?_)
      refine D.val hf (v := elemPtr s1A (k1 * 2)) rfl rfl rfl (V.index rfl rfl rfl Tryz.runUnderlying23 Tryz.sizeOf32 (hv_s1.some_ (lt_of_get hxk1)) (Int.natCast_nonneg _) (lt_of_get hxk1) rfl) (fun a hf => ?_)
      refine D.val hf (v := .agg #[.string (ba xk1.Name), .string (ba xk1.Material)]) rfl rfl rfl (V.loadEl (off := 0) (Ag.args _ _ _) (hv_s1.flat hxk1) rfl rfl rfl Tryz.isAgg32 Tryz.sizeOf32 rfl rfl) (fun a hf => ?_)
      refine D.val hf (v := .slice s2A s2.length s2C) rfl rfl rfl (V.pure rfl) (fun a hf => ?_)
      refine D.val hf (v := .int .i64 (k1 : Int)) rfl rfl rfl (V.pure rfl) (fun a hf => ?_)
      obtain ⟨h0x1, x1, hx1, h⟩ := h
      refine D.val hf (v := elemPtr s2A (k1 * 2)) rfl rfl rfl (V.index rfl rfl rfl Tryz.runUnderlying23 Tryz.sizeOf32 (hv_s2.some_ (lt_of_get hx1)) (Int.natCast_nonneg _) (lt_of_get hx1) rfl) (fun a hf => ?_)
      refine D.val hf (v := .agg #[.string (ba x1.Name), .string (ba x1.Material)]) rfl rfl rfl (V.loadEl (off := 0) (Ag.args _ _ _) (hv_s2.flat hx1) rfl rfl rfl Tryz.isAgg32 Tryz.sizeOf32 rfl rfl) (fun a hf => ?_)
      refine D.val hf (v := .bool (!(decide (xk1 = x1)))) rfl rfl rfl (V.aggneq rfl rfl rfl (by kernel_rfl) (fun w => eqS32 xk1 x1 w)) (fun a hf => ?_)
      refine D.done (fun w hs => ?_)
      refine X.then_ ?_
      refine C.cond hf (b := !(decide (xk1 = x1))) rfl (fun hc => ?_) (fun hc => ?_)
      · replace h := h.1 hc
        refine wp_seq ?_
        refine R.list ?_
        refine S.val hf hs (v := .bool false) rfl rfl rfl (V.pure rfl) (fun a hf => ?_)
        refine R.nil ?_
        refine X.then_ ?_
        refine wp_ret ?_
        refine X.blk_ret ?_
        refine X.then_ret ?_
        refine X.then_ret ?_
        refine X.blk_ret ?_
        refine X.then_ret ?_
        exact L.ret hf (run_results1 Tryz.results14 (ResIs.tmp hf rfl)) ⟨false, rfl, h, hs.nil⟩
      · replace h := h.2 hc
        refine wp_skip ?_
        refine X.blk ?_
        refine X.then_ ?_
        refine R.list ?_
        refine S.val hf hs (v := .int .i64 ((k1 + 1 : Nat) : Int)) rfl rfl rfl (V.incr rfl rfl rfl hltk1 hlenk1) (fun a hf => ?_)
        refine S.val hf hs (v := .int .i64 ((k1 + 1 : Nat) : Int)) rfl rfl rfl (V.pure rfl) (fun a hf => ?_)
        refine R.nil ?_
        refine X.then_ ?_
        exact ⟨xk1, llk1, rfl, k1 + 1, range_drop hlk1, range_len hkk1, (by rw [hnext1] at h; exact h), ((((hf.nil.cons (hf.get 12 _ rfl)).cons (hf.get 1 _ rfl)).cons (hf.get 0 _ rfl)).cons (hf.get 13 _ rfl)), hs⟩

set_option linter.unusedVariables false
def M_equal_material_L1 (s2 : (List Material)) (Q : Bool → Prop) (k1 : Nat) (xk1 : Material)  (next1 : Prop) : Prop :=
  idx s2 (k1 : Int) fun x1 => cnd (!(decide (xk1 = x1))) (Q false) (next1)
def M_equal_material (s1 : (List Material)) (s2 : (List Material)) (Q : Bool → Prop) : Prop :=
  cnd ((s1.length : Int) != (s2.length : Int)) (Q false) (forIn' (fun k x (s : Unit) next => M_equal_material_L1 s2 Q k x (next ())) (fun (s : Unit) => Q true) s1 0 ())
set_option maxHeartbeats 1000000 in
theorem R_equal_material (s1 : (List Material)) (s2 : (List Material)) (w0 : World) (s1A : Option Addr) (s1C : Nat) (hv_s1 : View w0 (old w0 none_) s1A s1C s1) (s2A : Option Addr) (s2C : Nat) (hv_s2 : View w0 (old w0 none_) s2A s2C s2) (Q : Bool → Prop) (h : M_equal_material s1 s2 Q) :
    Ret Tryz.prog 13 #[.slice s1A s1.length s1C, .slice s2A s2.length s2C] w0 fun v w' => ∃ (r0 : Bool), v = .bool r0 ∧ Q r0 ∧ Sat w0 none_ [] w' := by
  refine fn_enter Tryz.func13 rfl Tryz.ntmps13 rfl (fs := [(0, .slice s1A s1.length s1C), (1, .slice s2A s2.length s2C)]) rfl (fun a hf => ?_)
  have hs := Sat.start w0 none_
  unfold M_equal_material at h
  refine wp_seq ?_
  refine R.list ?_
  refine S.val hf hs (v := .bool false) rfl rfl rfl (V.pure rfl) (fun a hf => ?_)
  refine R.nil ?_
  refine X.then_ ?_
  refine wp_seq ?_
  refine wp_seq ?_
  refine R.list ?_
  refine S.val hf hs (v := .slice s1A s1.length s1C) rfl rfl rfl (V.pure rfl) (fun a hf => ?_)
  refine S.val hf hs (v := .int .i64 (s1.length : Int)) rfl rfl rfl (V.len rfl rfl Tryz.runUnderlying22) (fun a hf => ?_)
  refine S.val hf hs (v := .slice s2A s2.length s2C) rfl rfl rfl (V.pure rfl) (fun a hf => ?_)
  refine S.val hf hs (v := .int .i64 (s2.length : Int)) rfl rfl rfl (V.len rfl rfl Tryz.runUnderlying22) (fun a hf => ?_)
  refine S.val hf hs (v := .bool ((s1.length : Int) != (s2.length : Int))) rfl rfl rfl (V.pure rfl) (fun a hf => ?_)
  refine R.nil ?_
  refine X.then_ ?_
  refine C.cond hf (b := (s1.length : Int) != (s2.length : Int)) rfl (fun hc => ?_) (fun hc => ?_)
  · replace h := h.1 hc
    refine wp_seq ?_
    refine R.list ?_
    refine S.val hf hs (v := .bool false) rfl rfl rfl (V.pure rfl) (fun a hf => ?_)
    refine R.nil ?_
    refine X.then_ ?_
    refine wp_ret ?_
    refine X.then_ret ?_
    exact L.ret hf (run_results1 Tryz.results13 (ResIs.tmp hf rfl)) ⟨false, rfl, h, hs.nil⟩
  · replace h := h.2 hc
    refine wp_skip ?_
    refine X.then_ ?_
    refine wp_seq ?_
    refine wp_seq ?_
    refine R.list ?_
    refine S.val hf hs (v := .slice s1A s1.length s1C) rfl rfl rfl (V.pure rfl) (fun a hf => ?_)
    refine S.val hf hs (v := .int .i64 (s1.length : Int)) rfl rfl rfl (V.len rfl rfl Tryz.runUnderlying22) (fun a hf => ?_)
    refine S.val hf hs (v := .int .i64 0) rfl rfl rfl (V.pure rfl) (fun a hf => ?_)
    refine R.nil ?_
    refine X.then_ ?_
    refine wp_block ?_
    have hlenk1 := hv_s1.len64
    refine C.range (fun (ll : List Material) a w => ∃ (k1 : Nat) , s1.drop k1 = ll ∧ k1 + ll.length = s1.length ∧ forIn' (fun k x (s : Unit) next => M_equal_material_L1 s2 Q k x (next ())) (fun (s : Unit) => Q true) ll k1 () ∧ FrOk 26 [(13, .int .i64 (k1 : Int)), (0, .slice s1A s1.length s1C), (1, .slice s2A s2.length s2C), (12, .int .i64 (s1.length : Int))] a ∧ Sat w0 none_ [] w) s1 ⟨0, rfl, Nat.zero_add _, h, ((((hf.nil.cons (hf.get 12 _ rfl)).cons (hf.get 1 _ rfl)).cons (hf.get 0 _ rfl)).cons (hf.get 13 _ rfl)), hs⟩ ?_
    clear h hf hs
    rintro llk1 a w ⟨k1, hlk1, hkk1, h, hf, hs⟩
    cases llk1 with
    | nil =>
      have hc := range_done hkk1
      replace h : Q true := h
      refine wp_seq ?_
      refine R.list ?_
      refine S.val hf hs (v := .bool false) rfl rfl rfl (V.cmp false rfl rfl rfl rfl hc) (fun a hf => ?_)
      refine R.nil ?_
      refine X.then_ ?_
      refine wp_seq ?_
      refine C.no hf rfl ?_
      refine wp_exit ?_
      refine X.then_exit ?_
      refine X.then_exit ?_
      refine X.blk_exit ?_
      refine X.then_ ?_
      refine wp_seq ?_
      refine R.list ?_
      refine S.val hf hs (v := .bool true) rfl rfl rfl (V.pure rfl) (fun a hf => ?_)
      refine R.nil ?_
      refine X.then_ ?_
      refine wp_ret ?_
      exact L.ret hf (run_results1 Tryz.results13 (ResIs.tmp hf rfl)) ⟨true, rfl, h, hs.nil⟩
    | cons xk1 llk1 =>
      have hltk1 := range_lt hkk1; have hc := range_go hkk1; have hxk1 := range_get hlk1
      obtain ⟨next1, hnext1⟩ : ∃ X : Prop, X = (forIn' (fun k x (s : Unit) next => M_equal_material_L1 s2 Q k x (next ())) (fun (s : Unit) => Q true) llk1 (k1 + 1) ()) := ⟨_, rfl⟩
      replace h : M_equal_material_L1 s2 Q k1 xk1  next1 := by rw [hnext1]; exact h
      unfold M_equal_material_L1 at h
      refine wp_seq ?_
      refine R.list ?_
      refine S.val hf hs (v := .bool true) rfl rfl rfl (V.cmp true rfl rfl rfl rfl hc) (fun a hf => ?_)
      refine R.nil ?_
      refine X.then_ ?_
      refine wp_seq ?_
      refine C.yes hf rfl ?_
      refine wp_skip ?_
      refine X.then_ ?_
      refine wp_seq ?_
      refine wp_block ?_
      refine wp_seq ?_
      refine R.list ?_
      refine S.val hf hs (v := .int .i64 (k1 : Int)) rfl rfl rfl (V.pure rfl) (fun a hf => ?_)
      refine S.val hf hs (v := .int .i64 (k1 : Int)) rfl rfl rfl (V.pure rfl) (fun a hf => ?_)
      refine R.nil ?_
      refine X.then_ ?_
      refine wp_seq ?_
      refine R.draw mo (by kernel_rfl) hs ?_
      refine D.val hf (v := .slice s1A s1.length s1C) rfl rfl rfl (V.pure rfl) (fun a hf => ?_)
      refine D.val hf (v := .int .i64 (k1 : Int)) rfl rfl rfl (V.pure rfl) (fun a hf => ?_)
      refine D.val hf (v := elemPtr s1A (k1 * 4)) rfl rfl rfl (V.index rfl rfl rfl Tryz.runUnderlying22 Tryz.sizeOf29 (hv_s1.some_ (lt_of_get hxk1)) (Int.natCast_nonneg _) (lt_of_get hxk1) rfl) (fun a hf => ?_)
      refine D.val hf (v := .agg #[.string (ba xk1.Name), .int .i64 xk1.Kind, .int .i64 xk1.Thick, .int .i64 xk1.Grow]) rfl rfl rfl (V.loadEl (off := 0) (Ag.args _ _ _) (hv_s1.flat hxk1) rfl rfl rfl Tryz.isAgg29 Tryz.sizeOf29 rfl rfl) (fun a hf => ?_)
      refine D.val hf (v := .slice s2A s2.length s2C) rfl rfl rfl (V.pure rfl) (fun a hf => ?_)
      refine D.val hf (v := .int .i64 (k1 : Int)) rfl rfl rfl (V.pure rfl) (fun a hf => ?_)
      obtain ⟨h0x1, x1, hx1, h⟩ := h
      refine D.val hf (v := elemPtr s2A (k1 * 4)) rfl rfl rfl (V.index rfl rfl rfl Tryz.runUnderlying22 Tryz.sizeOf29 (hv_s2.some_ (lt_of_get hx1)) (Int.natCast_nonneg _) (lt_of_get hx1) rfl) (fun a hf => ?_)
      refine D.val hf (v := .agg #[.string (ba x1.Name), .int .i64 x1.Kind, .int .i64 x1.Thick, .int .i64 x1.Grow]) rfl rfl rfl (V.loadEl (off := 0) (Ag.args _ _ _) (hv_s2.flat hx1) rfl rfl rfl Tryz.isAgg29 Tryz.sizeOf29 rfl rfl) (fun a hf => ?_)
      refine D.val hf (v := .bool (!(decide (xk1 = x1)))) rfl rfl rfl (V.aggneq rfl rfl rfl (by kernel_rfl) (fun w => eqS29 xk1 x1 w)) (fun a hf => ?_)
      refine D.done (fun w hs => ?_)
      refine X.then_ ?_
      refine C.cond hf (b := !(decide (xk1 = x1))) rfl (fun hc => ?_) (fun hc => ?_)
      · replace h := h.1 hc
        refine wp_seq ?_
        refine R.list ?_
        refine S.val hf hs (v := .bool false) rfl rfl rfl (V.pure rfl) (fun a hf => ?_)
        refine R.nil ?_
        refine X.then_ ?_
        refine wp_ret ?_
        refine X.blk_ret ?_
        refine X.then_ret ?_
        refine X.then_ret ?_
        refine X.blk_ret ?_
        refine X.then_ret ?_
        exact L.ret hf (run_results1 Tryz.results13 (ResIs.tmp hf rfl)) ⟨false, rfl, h, hs.nil⟩
      · replace h := h.2 hc
        refine wp_skip ?_
        refine X.blk ?_
        refine X.then_ ?_
        refine R.list ?_
        refine S.val hf hs (v := .int .i64 ((k1 + 1 : Nat) : Int)) rfl rfl rfl (V.incr rfl rfl rfl hltk1 hlenk1) (fun a hf => ?_)
        refine S.val hf hs (v := .int .i64 ((k1 + 1 : Nat) : Int)) rfl rfl rfl (V.pure rfl) (fun a hf => ?_)
        refine R.nil ?_
        refine X.then_ ?_
        exact ⟨xk1, llk1, rfl, k1 + 1, range_drop hlk1, range_len hkk1, (by rw [hnext1] at h; exact h), ((((hf.nil.cons (hf.get 12 _ rfl)).cons (hf.get 1 _ rfl)).cons (hf.get 0 _ rfl)).cons (hf.get 13 _ rfl)), hs⟩

set_option linter.unusedVariables false
def M_law_StackReads (text : Str) (Q : Bool → Prop) : Prop :=
  M_stack_Read text fun y1 y2 y3 y4 => M_ref4_Read text fun y5 y6 y7 y8 => cnd (y4 == y8) (cnd (y3 == y7) (M_equal_material y1 y5 fun y9 => cnd y9 (M_equal_layer y2 y6 fun y10 => cnd y10 (M_awake  fun y11 => Q y11) (Q false)) (Q false)) (Q false)) (Q false)
set_option maxHeartbeats 1000000 in
theorem R_law_StackReads (text : Str) (w0 : World)  (Q : Bool → Prop) (h : M_law_StackReads text Q) :
    Ret Tryz.prog 3 #[.string (ba text)] w0 fun v w' => ∃ (r0 : Bool), v = .bool r0 ∧ Q r0 ∧ Sat w0 none_ [] w' := by
  refine fn_enter Tryz.func3 rfl Tryz.ntmps3 rfl (fs := [(0, .string (ba text))]) rfl (fun a hf => ?_)
  have hs := Sat.start w0 none_
  unfold M_law_StackReads at h
  refine wp_seq ?_
  refine R.list ?_
  refine S.val hf hs (v := .bool false) rfl rfl rfl (V.pure rfl) (fun a hf => ?_)
  refine R.nil ?_
  refine X.then_ ?_
  refine wp_seq ?_
  refine R.list ?_
  refine S.val hf hs (v := .string (ba text)) rfl rfl rfl (V.pure rfl) (fun a hf => ?_)
  refine S.call hf rfl rfl rfl (call_fn (vs := [.string (ba text)]) rfl rfl rfl Tryz.call11) (R_stack_Read text _  _ h) (fun v a w' hf hr => ?_)
  obtain ⟨y1, y1A, y1C, y2, y2A, y2C, y3, y4, rfl, h2, hs2⟩ := hr
  replace h := h2; replace hs := hs.call hs2; clear h2 hs2
  refine S.val hf hs (v := .tuple #[.slice y1A y1.length y1C, .slice y2A y2.length y2C, .int .i64 y3, .int .i64 y4]) rfl rfl rfl (V.pure rfl) (fun a hf => ?_)
  refine S.val hf hs (v := .slice y1A y1.length y1C) rfl rfl rfl (V.pure rfl) (fun a hf => ?_)
  refine S.val hf hs (v := .slice y2A y2.length y2C) rfl rfl rfl (V.pure rfl) (fun a hf => ?_)
  refine S.val hf hs (v := .int .i64 y3) rfl rfl rfl (V.pure rfl) (fun a hf => ?_)
  refine S.val hf hs (v := .int .i64 y4) rfl rfl rfl (V.pure rfl) (fun a hf => ?_)
  refine S.val hf hs (v := .slice y1A y1.length y1C) rfl rfl rfl (V.pure rfl) (fun a hf => ?_)
  refine S.val hf hs (v := .slice y2A y2.length y2C) rfl rfl rfl (V.pure rfl) (fun a hf => ?_)
  refine S.val hf hs (v := .int .i64 y3) rfl rfl rfl (V.pure rfl) (fun a hf => ?_)
  refine S.val hf hs (v := .int .i64 y4) rfl rfl rfl (V.pure rfl) (fun a hf => ?_)
  refine R.nil ?_
  refine X.then_ ?_
  refine wp_seq ?_
  refine R.list ?_
  refine S.val hf hs (v := .string (ba text)) rfl rfl rfl (V.pure rfl) (fun a hf => ?_)
  refine S.call hf rfl rfl rfl (call_fn (vs := [.string (ba text)]) rfl rfl rfl Tryz.call12) (R_ref4_Read text _  _ h) (fun v a w' hf hr => ?_)
  obtain ⟨y5, y5A, y5C, y6, y6A, y6C, y7, y8, rfl, h2, hs2⟩ := hr
  replace h := h2; replace hs := hs.call hs2; clear h2 hs2
  refine S.val hf hs (v := .tuple #[.slice y5A y5.length y5C, .slice y6A y6.length y6C, .int .i64 y7, .int .i64 y8]) rfl rfl rfl (V.pure rfl) (fun a hf => ?_)
  refine S.val hf hs (v := .slice y5A y5.length y5C) rfl rfl rfl (V.pure rfl) (fun a hf => ?_)
  refine S.val hf hs (v := .slice y6A y6.length y6C) rfl rfl rfl (V.pure rfl) (fun a hf => ?_)
  refine S.val hf hs (v := .int .i64 y7) rfl rfl rfl (V.pure rfl) (fun a hf => ?_)
  refine S.val hf hs (v := .int .i64 y8) rfl rfl rfl (V.pure rfl) (fun a hf => ?_)
  refine S.val hf hs (v := .slice y5A y5.length y5C) rfl rfl rfl (V.pure rfl) (fun a hf => ?_)
  refine S.val hf hs (v := .slice y6A y6.length y6C) rfl rfl rfl (V.pure rfl) (fun a hf => ?_)
  refine S.val hf hs (v := .int .i64 y7) rfl rfl rfl (V.pure rfl) (fun a hf => ?_)
  refine S.val hf hs (v := .int .i64 y8) rfl rfl rfl (V.pure rfl) (fun a hf => ?_)
  refine R.nil ?_
  refine X.then_ ?_
  refine wp_seq ?_
  refine R.list ?_
  refine S.val hf hs (v := .int .i64 y4) rfl rfl rfl (V.pure rfl) (fun a hf => ?_)
  refine S.val hf hs (v := .int .i64 y8) rfl rfl rfl (V.pure rfl) (fun a hf => ?_)
  refine S.val hf hs (v := .bool (y4 == y8)) rfl rfl rfl (V.pure rfl) (fun a hf => ?_)
  refine S.split hf hs (b := y4 == y8) rfl rfl rfl (V.pure rfl) (fun hc a hf => ?_) (fun hc a hf => ?_)
  · replace h := h.1 hc
    refine S.val hf hs (v := .int .i64 y3) rfl rfl rfl (V.pure rfl) (fun a hf => ?_)
    refine S.val hf hs (v := .int .i64 y7) rfl rfl rfl (V.pure rfl) (fun a hf => ?_)
    refine S.val hf hs (v := .bool (y3 == y7)) rfl rfl rfl (V.pure rfl) (fun a hf => ?_)
    refine S.val hf hs (v := .bool (y3 == y7)) rfl rfl rfl (V.pure rfl) (fun a hf => ?_)
    refine S.split hf hs (b := y3 == y7) rfl rfl rfl (V.pure rfl) (fun hc a hf => ?_) (fun hc a hf => ?_)
    · replace h := h.1 hc
      refine S.val hf hs (v := .slice y1A y1.length y1C) rfl rfl rfl (V.pure rfl) (fun a hf => ?_)
      refine S.val hf hs (v := .slice y5A y5.length y5C) rfl rfl rfl (V.pure rfl) (fun a hf => ?_)
      refine S.call hf rfl rfl rfl (call_fn (vs := [.slice y1A y1.length y1C, .slice y5A y5.length y5C]) rfl rfl rfl Tryz.call13) (R_equal_material y1 y5 _ y1A y1C (hs.ownView 2 rfl) y5A y5C (hs.ownView 0 rfl) _ h) (fun v a w' hf hr => ?_)
      obtain ⟨y9, rfl, h2, hs2⟩ := hr
      replace h := h2; replace hs := hs.call hs2; clear h2 hs2
      refine S.val hf hs (v := .bool y9) rfl rfl rfl (V.pure rfl) (fun a hf => ?_)
      refine S.split hf hs (b := y9) rfl rfl rfl (V.pure rfl) (fun hc a hf => ?_) (fun hc a hf => ?_)
      · replace h := h.1 hc
        refine S.val hf hs (v := .slice y2A y2.length y2C) rfl rfl rfl (V.pure rfl) (fun a hf => ?_)
        refine S.val hf hs (v := .slice y6A y6.length y6C) rfl rfl rfl (V.pure rfl) (fun a hf => ?_)
        refine S.call hf rfl rfl rfl (call_fn (vs := [.slice y2A y2.length y2C, .slice y6A y6.length y6C]) rfl rfl rfl Tryz.call14) (R_equal_layer y2 y6 _ y2A y2C (hs.ownView 3 rfl) y6A y6C (hs.ownView 1 rfl) _ h) (fun v a w' hf hr => ?_)
        obtain ⟨y10, rfl, h2, hs2⟩ := hr
        replace h := h2; replace hs := hs.call hs2; clear h2 hs2
        refine S.val hf hs (v := .bool y10) rfl rfl rfl (V.pure rfl) (fun a hf => ?_)
        refine S.split hf hs (b := y10) rfl rfl rfl (V.pure rfl) (fun hc a hf => ?_) (fun hc a hf => ?_)
        · replace h := h.1 hc
          refine S.call hf rfl rfl rfl (call_fn (vs := []) rfl rfl rfl Tryz.call15) (R_awake  _  _ h) (fun v a w' hf hr => ?_)
          obtain ⟨y11, rfl, h2, hs2⟩ := hr
          replace h := h2; replace hs := hs.call hs2; clear h2 hs2
          refine S.val hf hs (v := .bool y11) rfl rfl rfl (V.pure rfl) (fun a hf => ?_)
          refine S.val hf hs (v := .bool y11) rfl rfl rfl (V.pure rfl) (fun a hf => ?_)
          refine R.nil ?_
          refine X.then_ ?_
          refine wp_ret ?_
          exact L.ret hf (run_results1 Tryz.results3 (ResIs.tmp hf rfl)) ⟨y11, rfl, h, hs.nil⟩
        · replace h := h.2 hc
          refine S.skip hf rfl rfl rfl (fun a hf => ?_)
          refine S.val hf hs (v := .bool false) rfl rfl rfl (V.pure rfl) (fun a hf => ?_)
          refine S.val hf hs (v := .bool false) rfl rfl rfl (V.pure rfl) (fun a hf => ?_)
          refine R.nil ?_
          refine X.then_ ?_
          refine wp_ret ?_
          exact L.ret hf (run_results1 Tryz.results3 (ResIs.tmp hf rfl)) ⟨false, rfl, h, hs.nil⟩
      · replace h := h.2 hc
        refine S.skip hf rfl rfl rfl (fun a hf => ?_)
        refine S.skip hf rfl rfl rfl (fun a hf => ?_)
        refine S.skip hf rfl rfl rfl (fun a hf => ?_)
        refine S.val hf hs (v := .bool false) rfl rfl rfl (V.pure rfl) (fun a hf => ?_)
        refine S.val hf hs (v := .bool false) rfl rfl rfl (V.pure rfl) (fun a hf => ?_)
        refine S.skip hf rfl rfl rfl (fun a hf => ?_)
        refine S.val hf hs (v := .bool false) rfl rfl rfl (V.pure rfl) (fun a hf => ?_)
        refine S.val hf hs (v := .bool false) rfl rfl rfl (V.pure rfl) (fun a hf => ?_)
        refine R.nil ?_
        refine X.then_ ?_
        refine wp_ret ?_
        exact L.ret hf (run_results1 Tryz.results3 (ResIs.tmp hf rfl)) ⟨false, rfl, h, hs.nil⟩
    · replace h := h.2 hc
      refine S.skip hf rfl rfl rfl (fun a hf => ?_)
      refine S.skip hf rfl rfl rfl (fun a hf => ?_)
      refine S.skip hf rfl rfl rfl (fun a hf => ?_)
      refine S.val hf hs (v := .bool false) rfl rfl rfl (V.pure rfl) (fun a hf => ?_)
      refine S.val hf hs (v := .bool false) rfl rfl rfl (V.pure rfl) (fun a hf => ?_)
      refine S.skip hf rfl rfl rfl (fun a hf => ?_)
      refine S.skip hf rfl rfl rfl (fun a hf => ?_)
      refine S.skip hf rfl rfl rfl (fun a hf => ?_)
      refine S.val hf hs (v := .bool false) rfl rfl rfl (V.pure rfl) (fun a hf => ?_)
      refine S.val hf hs (v := .bool false) rfl rfl rfl (V.pure rfl) (fun a hf => ?_)
      refine S.skip hf rfl rfl rfl (fun a hf => ?_)
      refine S.val hf hs (v := .bool false) rfl rfl rfl (V.pure rfl) (fun a hf => ?_)
      refine S.val hf hs (v := .bool false) rfl rfl rfl (V.pure rfl) (fun a hf => ?_)
      refine R.nil ?_
      refine X.then_ ?_
      refine wp_ret ?_
      exact L.ret hf (run_results1 Tryz.results3 (ResIs.tmp hf rfl)) ⟨false, rfl, h, hs.nil⟩
  · replace h := h.2 hc
    refine S.skip hf rfl rfl rfl (fun a hf => ?_)
    refine S.skip hf rfl rfl rfl (fun a hf => ?_)
    refine S.skip hf rfl rfl rfl (fun a hf => ?_)
    refine S.val hf hs (v := .bool false) rfl rfl rfl (V.pure rfl) (fun a hf => ?_)
    refine S.val hf hs (v := .bool false) rfl rfl rfl (V.pure rfl) (fun a hf => ?_)
    refine S.skip hf rfl rfl rfl (fun a hf => ?_)
    refine S.skip hf rfl rfl rfl (fun a hf => ?_)
    refine S.skip hf rfl rfl rfl (fun a hf => ?_)
    refine S.val hf hs (v := .bool false) rfl rfl rfl (V.pure rfl) (fun a hf => ?_)
    refine S.val hf hs (v := .bool false) rfl rfl rfl (V.pure rfl) (fun a hf => ?_)
    refine S.skip hf rfl rfl rfl (fun a hf => ?_)
    refine S.skip hf rfl rfl rfl (fun a hf => ?_)
    refine S.skip hf rfl rfl rfl (fun a hf => ?_)
    refine S.val hf hs (v := .bool false) rfl rfl rfl (V.pure rfl) (fun a hf => ?_)
    refine S.val hf hs (v := .bool false) rfl rfl rfl (V.pure rfl) (fun a hf => ?_)
    refine S.skip hf rfl rfl rfl (fun a hf => ?_)
    refine S.val hf hs (v := .bool false) rfl rfl rfl (V.pure rfl) (fun a hf => ?_)
    refine S.val hf hs (v := .bool false) rfl rfl rfl (V.pure rfl) (fun a hf => ?_)
    refine R.nil ?_
    refine X.then_ ?_
    refine wp_ret ?_
    exact L.ret hf (run_results1 Tryz.results3 (ResIs.tmp hf rfl)) ⟨false, rfl, h, hs.nil⟩


end Go.Proofs.YtdnilnmdbgcmoaaGreatDoor

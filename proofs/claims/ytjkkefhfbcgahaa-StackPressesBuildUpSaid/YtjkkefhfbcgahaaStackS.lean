/- Chapter 4: presses and cycles: the walks. -/
import Derived.Test.YtjkkefhfbcgahaaStackO
namespace Go.Proofs.Ytjkkefhfbcgahaa
open Go Go.RowKit
set_option linter.unusedVariables false

set_option linter.unusedVariables false
def M_equal_int_L1 (s2 : (List Int)) (Q : Bool → Prop) (k1 : Nat) (xk1 : Int)  (next1 : Prop) : Prop :=
  idx s2 (k1 : Int) fun x1 => cnd (xk1 != x1) (Q false) (next1)
def M_equal_int (s1 : (List Int)) (s2 : (List Int)) (Q : Bool → Prop) : Prop :=
  cnd ((s1.length : Int) != (s2.length : Int)) (Q false) (forIn' (fun k x (s : Unit) next => M_equal_int_L1 s2 Q k x (next ())) (fun (s : Unit) => Q true) s1 0 ())
set_option maxHeartbeats 1000000 in
theorem R_equal_int (s1 : (List Int)) (s2 : (List Int)) (w0 : World) (s1A : Option Addr) (s1C : Nat) (hv_s1 : View w0 (old w0 none_) s1A s1C s1) (s2A : Option Addr) (s2C : Nat) (hv_s2 : View w0 (old w0 none_) s2A s2C s2) (Q : Bool → Prop) (h : M_equal_int s1 s2 Q) :
    Ret Try.prog 37 #[.slice s1A s1.length s1C, .slice s2A s2.length s2C] w0 fun v w' => ∃ (r0 : Bool), v = .bool r0 ∧ Q r0 ∧ Sat w0 none_ [] w' := by
  refine fn_enter Try.func37 rfl Try.ntmps37 rfl (fs := [(0, .slice s1A s1.length s1C), (1, .slice s2A s2.length s2C)]) rfl (fun a hf => ?_)
  have hs := Sat.start w0 none_
  unfold M_equal_int at h
  refine wp_seq ?_
  refine R.list ?_
  refine S.val hf hs (v := .bool false) rfl rfl rfl (V.pure rfl) (fun a hf => ?_)
  refine R.nil ?_
  refine X.then_ ?_
  refine wp_seq ?_
  refine wp_seq ?_
  refine R.list ?_
  refine S.val hf hs (v := .slice s1A s1.length s1C) rfl rfl rfl (V.pure rfl) (fun a hf => ?_)
  refine S.val hf hs (v := .int .i64 (s1.length : Int)) rfl rfl rfl (V.len rfl rfl Try.runUnderlying43) (fun a hf => ?_)
  refine S.val hf hs (v := .slice s2A s2.length s2C) rfl rfl rfl (V.pure rfl) (fun a hf => ?_)
  refine S.val hf hs (v := .int .i64 (s2.length : Int)) rfl rfl rfl (V.len rfl rfl Try.runUnderlying43) (fun a hf => ?_)
  refine S.val hf hs (v := .bool ((s1.length : Int) != (s2.length : Int))) rfl rfl rfl (V.pure rfl) (fun a hf => ?_)
  refine R.nil ?_
  refine X.then_ ?_
  refine C.cond hf (b := (s1.length : Int) != (s2.length : Int)) rfl (fun hc => ?_) (fun hc => ?_)
  · replace h := h.1 hc
    refine wp_seq ?_
    refine R.list ?_
    refine S.val hf hs (v := .bool false) rfl rfl rfl (V.pure rfl) (fun a hf => ?_)
    refine R.nil ?_
    refine X.then_ ?_
    refine wp_ret ?_
    refine X.then_ret ?_
    exact L.ret hf (run_results1 Try.results37 (ResIs.tmp hf rfl)) ⟨false, rfl, h, hs.nil⟩
  · replace h := h.2 hc
    refine wp_skip ?_
    refine X.then_ ?_
    refine wp_seq ?_
    refine wp_seq ?_
    refine R.list ?_
    refine S.val hf hs (v := .slice s1A s1.length s1C) rfl rfl rfl (V.pure rfl) (fun a hf => ?_)
    refine S.val hf hs (v := .int .i64 (s1.length : Int)) rfl rfl rfl (V.len rfl rfl Try.runUnderlying43) (fun a hf => ?_)
    refine S.val hf hs (v := .int .i64 0) rfl rfl rfl (V.pure rfl) (fun a hf => ?_)
    refine R.nil ?_
    refine X.then_ ?_
    refine wp_block ?_
    have hlenk1 := hv_s1.len64
    refine C.range (fun (ll : List Int) a w => ∃ (k1 : Nat) , s1.drop k1 = ll ∧ k1 + ll.length = s1.length ∧ forIn' (fun k x (s : Unit) next => M_equal_int_L1 s2 Q k x (next ())) (fun (s : Unit) => Q true) ll k1 () ∧ FrOk 26 [(13, .int .i64 (k1 : Int)), (0, .slice s1A s1.length s1C), (1, .slice s2A s2.length s2C), (12, .int .i64 (s1.length : Int))] a ∧ Sat w0 none_ [] w) s1 ⟨0, rfl, Nat.zero_add _, h, ((((hf.nil.cons (hf.get 12 _ rfl)).cons (hf.get 1 _ rfl)).cons (hf.get 0 _ rfl)).cons (hf.get 13 _ rfl)), hs⟩ ?_
    clear h hf hs
    rintro llk1 a w ⟨k1, hlk1, hkk1, h, hf, hs⟩
    cases llk1 with
    | nil =>
      have hc := range_done hkk1
      replace h : Q true := h
      refine wp_seq ?_
      refine R.list ?_
      refine S.val hf hs (v := .bool false) rfl rfl rfl (V.cmp false rfl rfl rfl rfl hc) (fun a hf => ?_)
      refine R.nil ?_
      refine X.then_ ?_
      refine wp_seq ?_
      refine C.no hf rfl ?_
      refine wp_exit ?_
      refine X.then_exit ?_
      refine X.then_exit ?_
      refine X.blk_exit ?_
      refine X.then_ ?_
      refine wp_seq ?_
      refine R.list ?_
      refine S.val hf hs (v := .bool true) rfl rfl rfl (V.pure rfl) (fun a hf => ?_)
      refine R.nil ?_
      refine X.then_ ?_
      refine wp_ret ?_
      exact L.ret hf (run_results1 Try.results37 (ResIs.tmp hf rfl)) ⟨true, rfl, h, hs.nil⟩
    | cons xk1 llk1 =>
      have hltk1 := range_lt hkk1; have hc := range_go hkk1; have hxk1 := range_get hlk1
      obtain ⟨next1, hnext1⟩ : ∃ X : Prop, X = (forIn' (fun k x (s : Unit) next => M_equal_int_L1 s2 Q k x (next ())) (fun (s : Unit) => Q true) llk1 (k1 + 1) ()) := ⟨_, rfl⟩
      replace h : M_equal_int_L1 s2 Q k1 xk1  next1 := by rw [hnext1]; exact h
      unfold M_equal_int_L1 at h
      refine wp_seq ?_
      refine R.list ?_
      refine S.val hf hs (v := .bool true) rfl rfl rfl (V.cmp true rfl rfl rfl rfl hc) (fun a hf => ?_)
      refine R.nil ?_
      refine X.then_ ?_
      refine wp_seq ?_
      refine C.yes hf rfl ?_
      refine wp_skip ?_
      refine X.then_ ?_
      refine wp_seq ?_
      refine wp_block ?_
      refine wp_seq ?_
      refine R.list ?_
      refine S.val hf hs (v := .int .i64 (k1 : Int)) rfl rfl rfl (V.pure rfl) (fun a hf => ?_)
      refine S.val hf hs (v := .int .i64 (k1 : Int)) rfl rfl rfl (V.pure rfl) (fun a hf => ?_)
      refine R.nil ?_
      refine X.then_ ?_
      refine wp_seq ?_
      refine R.draw mo (by kernel_rfl) hs ?_
      refine D.val hf (v := .slice s1A s1.length s1C) rfl rfl rfl (V.pure rfl) (fun a hf => ?_)
      refine D.val hf (v := .int .i64 (k1 : Int)) rfl rfl rfl (V.pure rfl) (fun a hf => ?_)
      refine D.val hf (v := elemPtr s1A (k1 * 1)) rfl rfl rfl (V.index rfl rfl rfl Try.runUnderlying43 Try.sizeOf3 (hv_s1.some_ (lt_of_get hxk1)) (Int.natCast_nonneg _) (lt_of_get hxk1) rfl) (fun a hf => ?_)
      refine D.val hf (v := .int .i64 xk1) rfl rfl rfl (V.loadEl (off := 0) (Ag.args _ _ _) (hv_s1.flat hxk1) rfl rfl rfl Try.isAgg3 Try.sizeOf3 rfl rfl) (fun a hf => ?_)
      refine D.val hf (v := .slice s2A s2.length s2C) rfl rfl rfl (V.pure rfl) (fun a hf => ?_)
      refine D.val hf (v := .int .i64 (k1 : Int)) rfl rfl rfl (V.pure rfl) (fun a hf => ?_)
      obtain ⟨h0x1, x1, hx1, h⟩ := h
      refine D.val hf (v := elemPtr s2A (k1 * 1)) rfl rfl rfl (V.index rfl rfl rfl Try.runUnderlying43 Try.sizeOf3 (hv_s2.some_ (lt_of_get hx1)) (Int.natCast_nonneg _) (lt_of_get hx1) rfl) (fun a hf => ?_)
      refine D.val hf (v := .int .i64 x1) rfl rfl rfl (V.loadEl (off := 0) (Ag.args _ _ _) (hv_s2.flat hx1) rfl rfl rfl Try.isAgg3 Try.sizeOf3 rfl rfl) (fun a hf => ?_)
      refine D.val hf (v := .bool (xk1 != x1)) rfl rfl rfl (V.pure rfl) (fun a hf => ?_)
      refine D.done (fun w hs => ?_)
      refine X.then_ ?_
      refine C.cond hf (b := xk1 != x1) rfl (fun hc => ?_) (fun hc => ?_)
      · replace h := h.1 hc
        refine wp_seq ?_
        refine R.list ?_
        refine S.val hf hs (v := .bool false) rfl rfl rfl (V.pure rfl) (fun a hf => ?_)
        refine R.nil ?_
        refine X.then_ ?_
        refine wp_ret ?_
        refine X.blk_ret ?_
        refine X.then_ret ?_
        refine X.then_ret ?_
        refine X.blk_ret ?_
        refine X.then_ret ?_
        exact L.ret hf (run_results1 Try.results37 (ResIs.tmp hf rfl)) ⟨false, rfl, h, hs.nil⟩
      · replace h := h.2 hc
        refine wp_skip ?_
        refine X.blk ?_
        refine X.then_ ?_
        refine R.list ?_
        refine S.val hf hs (v := .int .i64 ((k1 + 1 : Nat) : Int)) rfl rfl rfl (V.incr rfl rfl rfl hltk1 hlenk1) (fun a hf => ?_)
        refine S.val hf hs (v := .int .i64 ((k1 + 1 : Nat) : Int)) rfl rfl rfl (V.pure rfl) (fun a hf => ?_)
        refine R.nil ?_
        refine X.then_ ?_
        exact ⟨xk1, llk1, rfl, k1 + 1, range_drop hlk1, range_len hkk1, (by rw [hnext1] at h; exact h), ((((hf.nil.cons (hf.get 12 _ rfl)).cons (hf.get 1 _ rfl)).cons (hf.get 0 _ rfl)).cons (hf.get 13 _ rfl)), hs⟩

set_option linter.unusedVariables false
def M_stack_Presses_L2 (xk1 : Through) (k2 : Nat) (xk2 : Through) (l4 : List Int) (next2 : List Int → Prop) : Prop :=
  cnd (decide (xk2 = xk1)) (must (room (l4 ++ [(k2 : Int)]).length 8) (next2 (l4 ++ [(k2 : Int)]))) (next2 l4)
def M_stack_Presses_L1 (l : (List Through)) (y3 : Int) (k1 : Nat) (xk1 : Through) (l2 : List Press) (next1 : List Press → Prop) : Prop :=
  forIn' (fun k x (s : List Int) next => M_stack_Presses_L2 xk1 k x s (fun l4 => next l4)) (fun (s : List Int) => (fun (l4 : List Int) => must (room (l2 ++ [(⟨xk1.From, xk1.To, decide ((k1 : Int) < y3), l4⟩ : Press)]).length 48) (next1 (l2 ++ [(⟨xk1.From, xk1.To, decide ((k1 : Int) < y3), l4⟩ : Press)]))) s) l 0 ([] : List Int)
def M_stack_Presses (m : (List Material)) (s_ : (List Layer)) (l : (List Through)) (Q : (List Press) → Int → Prop) : Prop :=
  M_stack_CheckSpans m s_ l fun y1 => cnd (y1 != 0) (Q ([] : List Press) y1) (M_stack_boards m s_ l fun y2 y3 => forIn' (fun k x (s : List Press) next => M_stack_Presses_L1 l y3 k x s (fun l2 => next l2)) (fun (s : List Press) => (fun (l2 : List Press) => Q l2 0) s) y2 0 ([] : List Press))
set_option maxHeartbeats 1000000 in
theorem R_stack_Presses (m : (List Material)) (s_ : (List Layer)) (l : (List Through)) (w0 : World) (mA : Option Addr) (mC : Nat) (hv_m : View w0 (old w0 none_) mA mC m) (s_A : Option Addr) (s_C : Nat) (hv_s_ : View w0 (old w0 none_) s_A s_C s_) (lA : Option Addr) (lC : Nat) (hv_l : View w0 (old w0 none_) lA lC l) (Q : (List Press) → Int → Prop) (h : M_stack_Presses m s_ l Q) :
    Ret Try.prog 38 #[.slice mA m.length mC, .slice s_A s_.length s_C, .slice lA l.length lC] w0 fun v w' => ∃ (r0 : (List Press)) (r0A : Option Addr) (r0C : Nat) (r0as : List (Option Addr × Nat)) (r1 : Int), v = .tuple #[.slice r0A r0.length r0C, .int .i64 r1] ∧ Q r0 r1 ∧ Sat w0 none_ [hrows 57 3 r0A r0C r0as r0] w' := by
  refine fn_enter Try.func38 rfl Try.ntmps38 rfl (fs := [(0, .slice mA m.length mC), (1, .slice s_A s_.length s_C), (2, .slice lA l.length lC)]) rfl (fun a hf => ?_)
  have hs := Sat.start w0 none_
  unfold M_stack_Presses at h
  refine wp_seq ?_
  refine R.list ?_
  refine S.val hf hs (v := .slice none 0 0) rfl rfl rfl (V.pure rfl) (fun a hf => ?_)
  refine S.val hf hs (v := .int .i64 0) rfl rfl rfl (V.pure rfl) (fun a hf => ?_)
  refine R.nil ?_
  refine X.then_ ?_
  refine wp_seq ?_
  refine wp_seq ?_
  refine R.list ?_
  refine S.val hf hs (v := .slice mA m.length mC) rfl rfl rfl (V.pure rfl) (fun a hf => ?_)
  refine S.val hf hs (v := .slice s_A s_.length s_C) rfl rfl rfl (V.pure rfl) (fun a hf => ?_)
  refine S.val hf hs (v := .slice lA l.length lC) rfl rfl rfl (V.pure rfl) (fun a hf => ?_)
  refine S.call hf rfl rfl rfl (call_fn (vs := [.slice mA m.length mC, .slice s_A s_.length s_C, .slice lA l.length lC]) rfl rfl rfl Try.call44) (R_stack_CheckSpans m s_ l _ mA mC ((Ag.args _ _ _).view hv_m hs) s_A s_C ((Ag.args _ _ _).view hv_s_ hs) lA lC ((Ag.args _ _ _).view hv_l hs) _ h) (fun v a w' hf hr => ?_)
  obtain ⟨y1, rfl, h2, hs2⟩ := hr
  replace h := h2; replace hs := hs.call hs2; clear h2 hs2
  refine S.val hf hs (v := .int .i64 y1) rfl rfl rfl (V.pure rfl) (fun a hf => ?_)
  refine R.nil ?_
  refine X.then_ ?_
  refine wp_seq ?_
  refine R.list ?_
  refine S.val hf hs (v := .int .i64 y1) rfl rfl rfl (V.pure rfl) (fun a hf => ?_)
  refine S.val hf hs (v := .bool (y1 != 0)) rfl rfl rfl (V.pure rfl) (fun a hf => ?_)
  refine R.nil ?_
  refine X.then_ ?_
  refine C.cond hf (b := y1 != 0) rfl (fun hc => ?_) (fun hc => ?_)
  · replace h := h.1 hc
    refine wp_seq ?_
    refine R.list ?_
    refine S.val hf hs (v := .int .i64 y1) rfl rfl rfl (V.pure rfl) (fun a hf => ?_)
    refine S.val hf hs (v := .slice none 0 0) rfl rfl rfl (V.pure rfl) (fun a hf => ?_)
    refine S.val hf hs (v := .int .i64 y1) rfl rfl rfl (V.pure rfl) (fun a hf => ?_)
    refine R.nil ?_
    refine X.then_ ?_
    refine wp_ret ?_
    refine X.then_ret ?_
    replace hs := hs.nilRows (α := Press) 57 3
    replace hs := hs.take 1
    exact L.ret hf (run_results2 Try.results38 (ResIs.tmp hf rfl) (ResIs.tmp hf rfl)) ⟨([] : List Press), none, 0, [], y1, rfl, h, hs⟩
  · replace h := h.2 hc
    refine wp_skip ?_
    refine X.then_ ?_
    refine wp_seq ?_
    refine R.list ?_
    refine S.val hf hs (v := .slice mA m.length mC) rfl rfl rfl (V.pure rfl) (fun a hf => ?_)
    refine S.val hf hs (v := .slice s_A s_.length s_C) rfl rfl rfl (V.pure rfl) (fun a hf => ?_)
    refine S.val hf hs (v := .slice lA l.length lC) rfl rfl rfl (V.pure rfl) (fun a hf => ?_)
    refine S.call hf rfl rfl rfl (call_fn (vs := [.slice mA m.length mC, .slice s_A s_.length s_C, .slice lA l.length lC]) rfl rfl rfl Try.call76) (R_stack_boards m s_ l _ mA mC ((Ag.args _ _ _).view hv_m hs) s_A s_C ((Ag.args _ _ _).view hv_s_ hs) lA lC ((Ag.args _ _ _).view hv_l hs) _ h) (fun v a w' hf hr => ?_)
    obtain ⟨y2, y2A, y2C, y3, rfl, h2, hs2⟩ := hr
    replace h := h2; replace hs := hs.call hs2; clear h2 hs2
    refine S.val hf hs (v := .tuple #[.slice y2A y2.length y2C, .int .i64 y3]) rfl rfl rfl (V.pure rfl) (fun a hf => ?_)
    refine S.val hf hs (v := .slice y2A y2.length y2C) rfl rfl rfl (V.pure rfl) (fun a hf => ?_)
    refine S.val hf hs (v := .int .i64 y3) rfl rfl rfl (V.pure rfl) (fun a hf => ?_)
    refine S.val hf hs (v := .slice y2A y2.length y2C) rfl rfl rfl (V.pure rfl) (fun a hf => ?_)
    refine S.val hf hs (v := .int .i64 y3) rfl rfl rfl (V.pure rfl) (fun a hf => ?_)
    refine R.nil ?_
    refine X.then_ ?_
    refine wp_seq ?_
    refine R.list ?_
    refine S.val hf hs (v := .slice none 0 0) rfl rfl rfl (V.pure rfl) (fun a hf => ?_)
    refine R.nil ?_
    refine X.then_ ?_
    refine wp_seq ?_
    refine wp_seq ?_
    refine R.list ?_
    refine S.val hf hs (v := .slice y2A y2.length y2C) rfl rfl rfl (V.pure rfl) (fun a hf => ?_)
    refine S.val hf hs (v := .int .i64 (y2.length : Int)) rfl rfl rfl (V.len rfl rfl Try.runUnderlying52) (fun a hf => ?_)
    refine S.val hf hs (v := .int .i64 0) rfl rfl rfl (V.pure rfl) (fun a hf => ?_)
    refine R.nil ?_
    refine X.then_ ?_
    refine wp_block ?_
    replace hs := hs.nilRows (α := Press) 57 3
    have hlenk1 := (hs.ownView 1 rfl).len64
    refine C.range (fun (ll : List Through) a w => ∃ (k1 : Nat) (l2 : List Press) (l2A : Option Addr) (l2C : Nat) (l2as : List (Option Addr × Nat)), y2.drop k1 = ll ∧ k1 + ll.length = y2.length ∧ forIn' (fun k x (s : List Press) next => M_stack_Presses_L1 l y3 k x s (fun l2 => next l2)) (fun (s : List Press) => (fun (l2 : List Press) => Q l2 0) s) ll k1 l2 ∧ FrOk 69 [(33, .int .i64 (k1 : Int)), (2, .slice lA l.length lC), (10, .int .i64 y3), (11, .slice l2A l2.length l2C), (31, .slice y2A y2.length y2C), (32, .int .i64 (y2.length : Int))] a ∧ Sat w0 none_ [hrows 57 3 l2A l2C l2as l2, hown 59 y2A y2C y2] w) y2 ⟨0, ([] : List Press), none, 0, ([] : List (Option Addr × Nat)), rfl, Nat.zero_add _, h, ((((((hf.nil.cons (hf.get 32 _ rfl)).cons (hf.get 31 _ rfl)).cons (hf.get 11 _ rfl)).cons (hf.get 10 _ rfl)).cons (hf.get 2 _ rfl)).cons (hf.get 33 _ rfl)), hs⟩ ?_
    clear h hf hs
    rintro llk1 a w ⟨k1, l2, l2A, l2C, l2as, hlk1, hkk1, h, hf, hs⟩
    cases llk1 with
    | nil =>
      have hc := range_done hkk1
      replace h : (fun (l2 : List Press) => Q l2 0) l2 := h
      refine wp_seq ?_
      refine R.list ?_
      refine S.val hf hs (v := .bool false) rfl rfl rfl (V.cmp false rfl rfl rfl rfl hc) (fun a hf => ?_)
      refine R.nil ?_
      refine X.then_ ?_
      refine wp_seq ?_
      refine C.no hf rfl ?_
      refine wp_exit ?_
      refine X.then_exit ?_
      refine X.then_exit ?_
      refine X.blk_exit ?_
      refine X.then_ ?_
      refine wp_seq ?_
      refine R.list ?_
      refine S.val hf hs (v := .slice l2A l2.length l2C) rfl rfl rfl (V.pure rfl) (fun a hf => ?_)
      refine S.val hf hs (v := .slice l2A l2.length l2C) rfl rfl rfl (V.pure rfl) (fun a hf => ?_)
      refine S.val hf hs (v := .int .i64 0) rfl rfl rfl (V.pure rfl) (fun a hf => ?_)
      refine R.nil ?_
      refine X.then_ ?_
      refine wp_ret ?_
      replace hs := hs.take 1
      exact L.ret hf (run_results2 Try.results38 (ResIs.tmp hf rfl) (ResIs.tmp hf rfl)) ⟨l2, l2A, l2C, l2as, 0, rfl, h, hs⟩
    | cons xk1 llk1 =>
      have hltk1 := range_lt hkk1; have hc := range_go hkk1; have hxk1 := range_get hlk1
      obtain ⟨next1, hnext1⟩ : ∃ X : List Press → Prop, X = (fun l2 => forIn' (fun k x (s : List Press) next => M_stack_Presses_L1 l y3 k x s (fun l2 => next l2)) (fun (s : List Press) => (fun (l2 : List Press) => Q l2 0) s) llk1 (k1 + 1) l2) := ⟨_, rfl⟩
      replace h : M_stack_Presses_L1 l y3 k1 xk1 l2 next1 := by rw [hnext1]; exact h
      unfold M_stack_Presses_L1 at h
      refine wp_seq ?_
      refine R.list ?_
      refine S.val hf hs (v := .bool true) rfl rfl rfl (V.cmp true rfl rfl rfl rfl hc) (fun a hf => ?_)
      refine R.nil ?_
      refine X.then_ ?_
      refine wp_seq ?_
      refine C.yes hf rfl ?_
      refine wp_skip ?_
      refine X.then_ ?_
      refine wp_seq ?_
      refine wp_block ?_
      refine wp_seq ?_
      refine R.list ?_
      refine S.val hf hs (v := .int .i64 (k1 : Int)) rfl rfl rfl (V.pure rfl) (fun a hf => ?_)
      refine S.val hf hs (v := elemPtr y2A (k1 * 2)) rfl rfl rfl (V.index rfl rfl rfl Try.runUnderlying52 Try.sizeOf59 (hs.ownSome 1 rfl (lt_of_get hxk1)) (Int.natCast_nonneg _) (lt_of_get hxk1) rfl) (fun a hf => ?_)
      refine S.val hf hs (v := .agg #[.int .i64 xk1.From, .int .i64 xk1.To]) rfl rfl rfl (V.loadOwn (off := 0) 1 rfl hxk1 rfl rfl rfl Try.isAgg59 Try.sizeOf59 rfl rfl) (fun a hf => ?_)
      refine S.alloc hf hs rfl rfl rfl [.int .i64 0, .int .i64 0] rfl Try.zeroValue59 rfl (fun g1 a w hf hs => ?_)
      refine S.val hf hs (v := .int .i64 (k1 : Int)) rfl rfl rfl (V.pure rfl) (fun a hf => ?_)
      refine S.storeBox 0 hf hs rfl rfl [.int .i64 xk1.From, .int .i64 xk1.To] [.int .i64 xk1.From, .int .i64 xk1.To] rfl rfl rfl rfl rfl Try.sizeOf59 rfl rfl rfl rfl (fun a w hf hs => ?_)
      refine R.nil ?_
      refine X.then_ ?_
      refine wp_seq ?_
      refine R.list ?_
      refine S.val hf hs (v := .pointer (some ⟨g1, 0, none⟩)) rfl rfl rfl (V.fieldBox rfl rfl Try.runUnderlying59 rfl Try.sizeOf3 rfl rfl) (fun a hf => ?_)
      refine S.val hf hs (v := .int .i64 xk1.From) rfl rfl rfl (V.loadBox 0 rfl rfl rfl Try.isAgg3 Try.sizeOf3 rfl rfl) (fun a hf => ?_)
      refine S.val hf hs (v := .pointer (some ⟨g1, 1, none⟩)) rfl rfl rfl (V.fieldBox rfl rfl Try.runUnderlying59 rfl Try.sizeOf3 rfl rfl) (fun a hf => ?_)
      refine S.val hf hs (v := .int .i64 xk1.To) rfl rfl rfl (V.loadBox 0 rfl rfl rfl Try.isAgg3 Try.sizeOf3 rfl rfl) (fun a hf => ?_)
      refine S.val hf hs (v := .int .i64 (k1 : Int)) rfl rfl rfl (V.pure rfl) (fun a hf => ?_)
      refine S.val hf hs (v := .int .i64 y3) rfl rfl rfl (V.pure rfl) (fun a hf => ?_)
      refine S.val hf hs (v := .bool (decide ((k1 : Int) < y3))) rfl rfl rfl (V.pure rfl) (fun a hf => ?_)
      refine S.val hf hs (v := .agg #[.int .i64 xk1.From, .int .i64 xk1.To, .bool (decide ((k1 : Int) < y3)), .slice none 0 0]) rfl rfl rfl (V.build (places := #[(0, 1), (1, 1), (2, 1), (3, 1)]) rfl Try.zeroValue57 Try.runUnderlying57 (by intro w; simp [Try.sizeOf3, Try.sizeOf4, Try.sizeOf43]) rfl rfl) (fun a hf => ?_)
      refine S.alloc hf hs rfl rfl rfl [.int .i64 0, .int .i64 0, .bool false, .slice none 0 0] rfl Try.zeroValue57 rfl (fun g2 a w hf hs => ?_)
      refine S.storeBox 0 hf hs rfl rfl [.int .i64 xk1.From, .int .i64 xk1.To, .bool (decide ((k1 : Int) < y3)), .slice none 0 0] [.int .i64 xk1.From, .int .i64 xk1.To, .bool (decide ((k1 : Int) < y3)), .slice none 0 0] rfl rfl rfl rfl rfl Try.sizeOf57 rfl rfl rfl rfl (fun a w hf hs => ?_)
      refine R.nil ?_
      refine X.then_ ?_
      refine wp_seq ?_
      refine wp_seq ?_
      refine R.list ?_
      refine S.val hf hs (v := .slice lA l.length lC) rfl rfl rfl (V.pure rfl) (fun a hf => ?_)
      refine S.val hf hs (v := .int .i64 (l.length : Int)) rfl rfl rfl (V.len rfl rfl Try.runUnderlying52) (fun a hf => ?_)
      refine S.val hf hs (v := .int .i64 0) rfl rfl rfl (V.pure rfl) (fun a hf => ?_)
      refine R.nil ?_
      refine X.then_ ?_
      refine wp_block ?_
      replace hs := hs.nilOwn (α := Int) 3
      replace hs := hs.rebox 1 (vs' := [.int .i64 xk1.From, .int .i64 xk1.To, .bool (decide ((k1 : Int) < y3)), .slice none ([] : List Int).length 0]) rfl rfl
      have hlenk2 := hv_l.len64
      refine C.range (fun (ll : List Through) a w => ∃ (k2 : Nat) (l4 : List Int) (l4A : Option Addr) (l4C : Nat), l.drop k2 = ll ∧ k2 + ll.length = l.length ∧ forIn' (fun k x (s : List Int) next => M_stack_Presses_L2 xk1 k x s (fun l4 => next l4)) (fun (s : List Int) => (fun (l4 : List Int) => must (room (l2 ++ [(⟨xk1.From, xk1.To, decide ((k1 : Int) < y3), l4⟩ : Press)]).length 48) (next1 (l2 ++ [(⟨xk1.From, xk1.To, decide ((k1 : Int) < y3), l4⟩ : Press)]))) s) ll k2 l4 ∧ FrOk 69 [(48, .int .i64 (k2 : Int)), (2, .slice lA l.length lC), (10, .int .i64 y3), (11, .slice l2A l2.length l2C), (13, .pointer (some ⟨g1, 0, none⟩)), (14, .pointer (some ⟨g2, 0, none⟩)), (31, .slice y2A y2.length y2C), (32, .int .i64 (y2.length : Int)), (33, .int .i64 (k1 : Int)), (46, .slice lA l.length lC), (47, .int .i64 (l.length : Int))] a ∧ Sat w0 none_ [hown 3 l4A l4C l4, hbox g2 57 [.int .i64 xk1.From, .int .i64 xk1.To, .bool (decide ((k1 : Int) < y3)), .slice l4A l4.length l4C], hbox g1 59 [.int .i64 xk1.From, .int .i64 xk1.To], hrows 57 3 l2A l2C l2as l2, hown 59 y2A y2C y2] w) l ⟨0, ([] : List Int), none, 0, rfl, Nat.zero_add _, h, (((((((((((hf.nil.cons (hf.get 47 _ rfl)).cons (hf.get 46 _ rfl)).cons (hf.get 33 _ rfl)).cons (hf.get 32 _ rfl)).cons (hf.get 31 _ rfl)).cons (hf.get 14 _ rfl)).cons (hf.get 13 _ rfl)).cons (hf.get 11 _ rfl)).cons (hf.get 10 _ rfl)).cons (hf.get 2 _ rfl)).cons (hf.get 48 _ rfl)), hs⟩ ?_
      clear h hf hs
      rintro llk2 a w ⟨k2, l4, l4A, l4C, hlk2, hkk2, h, hf, hs⟩
      cases llk2 with
      | nil =>
        have hc := range_done hkk2
        replace h : (fun (l4 : List Int) => must (room (l2 ++ [(⟨xk1.From, xk1.To, decide ((k1 : Int) < y3), l4⟩ : Press)]).length 48) (next1 (l2 ++ [(⟨xk1.From, xk1.To, decide ((k1 : Int) < y3), l4⟩ : Press)]))) l4 := h
        refine wp_seq ?_
        refine R.list ?_
        refine S.val hf hs (v := .bool false) rfl rfl rfl (V.cmp false rfl rfl rfl rfl hc) (fun a hf => ?_)
        refine R.nil ?_
        refine X.then_ ?_
        refine wp_seq ?_
        refine C.no hf rfl ?_
        refine wp_exit ?_
        refine X.then_exit ?_
        refine X.then_exit ?_
        refine X.blk_exit ?_
        refine X.then_ ?_
        refine R.list ?_
        refine S.val hf hs (v := .slice l2A l2.length l2C) rfl rfl rfl (V.pure rfl) (fun a hf => ?_)
        refine S.val hf hs (v := .agg #[.int .i64 xk1.From, .int .i64 xk1.To, .bool (decide ((k1 : Int) < y3)), .slice l4A l4.length l4C]) rfl rfl rfl (V.loadBox 1 rfl rfl rfl Try.isAgg57 Try.sizeOf57 rfl rfl) (fun a hf => ?_)
        refine S.build1 hf hs rfl rfl rfl (α := PressSh) (⟨xk1.From, xk1.To, decide ((k1 : Int) < y3), ⟨l4A, l4.length, l4C⟩⟩ : PressSh) rfl rfl rfl Try.runUnderlying53 Try.sizeOf57 Try.zeroValue57 rfl (by decide) (fun A1 a w hf hs => ?_)
        replace hs := hs.front 1 rfl
        obtain ⟨hroom, h⟩ := h
        refine S.appendRow 3 hf hs rfl rfl rfl (⟨xk1.From, xk1.To, decide ((k1 : Int) < y3), l4⟩ : Press) rfl rfl rfl rfl rfl Try.underlying53 info57 rfl hroom ((hs.ownView 1 rfl).some_ (i := 0) (by simp)) (hs.ownView 1 rfl) (fun A2 C1 a w hf hs => ?_)
        replace hs := hs.drop
        refine S.val hf hs (v := .slice A2 (l2 ++ [(⟨xk1.From, xk1.To, decide ((k1 : Int) < y3), l4⟩ : Press)]).length C1) rfl rfl rfl (V.pure rfl) (fun a hf => ?_)
        refine R.nil ?_
        refine X.blk ?_
        refine X.then_ ?_
        refine R.list ?_
        refine S.val hf hs (v := .int .i64 ((k1 + 1 : Nat) : Int)) rfl rfl rfl (V.incr rfl rfl rfl hltk1 hlenk1) (fun a hf => ?_)
        refine S.val hf hs (v := .int .i64 ((k1 + 1 : Nat) : Int)) rfl rfl rfl (V.pure rfl) (fun a hf => ?_)
        refine R.nil ?_
        refine X.then_ ?_
        exact ⟨xk1, llk1, rfl, k1 + 1, (l2 ++ [(⟨xk1.From, xk1.To, decide ((k1 : Int) < y3), l4⟩ : Press)]), A2, C1, (l2as ++ [(l4A, l4C)]), range_drop hlk1, range_len hkk1, (by rw [hnext1] at h; exact h), ((((((hf.nil.cons (hf.get 32 _ rfl)).cons (hf.get 31 _ rfl)).cons (hf.get 11 _ rfl)).cons (hf.get 10 _ rfl)).cons (hf.get 2 _ rfl)).cons (hf.get 33 _ rfl)), hs.drop.drop⟩
      | cons xk2 llk2 =>
        have hltk2 := range_lt hkk2; have hc := range_go hkk2; have hxk2 := range_get hlk2
        obtain ⟨next2, hnext2⟩ : ∃ X : List Int → Prop, X = (fun l4 => forIn' (fun k x (s : List Int) next => M_stack_Presses_L2 xk1 k x s (fun l4 => next l4)) (fun (s : List Int) => (fun (l4 : List Int) => must (room (l2 ++ [(⟨xk1.From, xk1.To, decide ((k1 : Int) < y3), l4⟩ : Press)]).length 48) (next1 (l2 ++ [(⟨xk1.From, xk1.To, decide ((k1 : Int) < y3), l4⟩ : Press)]))) s) llk2 (k2 + 1) l4) := ⟨_, rfl⟩
        replace h : M_stack_Presses_L2 xk1 k2 xk2 l4 next2 := by rw [hnext2]; exact h
        unfold M_stack_Presses_L2 at h
        refine wp_seq ?_
        refine R.list ?_
        refine S.val hf hs (v := .bool true) rfl rfl rfl (V.cmp true rfl rfl rfl rfl hc) (fun a hf => ?_)
        refine R.nil ?_
        refine X.then_ ?_
        refine wp_seq ?_
        refine C.yes hf rfl ?_
        refine wp_skip ?_
        refine X.then_ ?_
        refine wp_seq ?_
        refine wp_block ?_
        refine wp_seq ?_
        refine R.list ?_
        refine S.val hf hs (v := .int .i64 (k2 : Int)) rfl rfl rfl (V.pure rfl) (fun a hf => ?_)
        refine S.val hf hs (v := elemPtr lA (k2 * 2)) rfl rfl rfl (V.index rfl rfl rfl Try.runUnderlying52 Try.sizeOf59 (hv_l.some_ (lt_of_get hxk2)) (Int.natCast_nonneg _) (lt_of_get hxk2) rfl) (fun a hf => ?_)
        refine S.val hf hs (v := .agg #[.int .i64 xk2.From, .int .i64 xk2.To]) rfl rfl rfl (V.loadEl (off := 0) (Ag.args _ _ _) (hv_l.flat hxk2) rfl rfl rfl Try.isAgg59 Try.sizeOf59 rfl rfl) (fun a hf => ?_)
        refine S.alloc hf hs rfl rfl rfl [.int .i64 0, .int .i64 0] rfl Try.zeroValue59 rfl (fun g3 a w hf hs => ?_)
        refine S.val hf hs (v := .int .i64 (k2 : Int)) rfl rfl rfl (V.pure rfl) (fun a hf => ?_)
        refine S.storeBox 0 hf hs rfl rfl [.int .i64 xk2.From, .int .i64 xk2.To] [.int .i64 xk2.From, .int .i64 xk2.To] rfl rfl rfl rfl rfl Try.sizeOf59 rfl rfl rfl rfl (fun a w hf hs => ?_)
        refine R.nil ?_
        refine X.then_ ?_
        refine wp_seq ?_
        refine R.list ?_
        refine S.val hf hs (v := .agg #[.int .i64 xk2.From, .int .i64 xk2.To]) rfl rfl rfl (V.loadBox 0 rfl rfl rfl Try.isAgg59 Try.sizeOf59 rfl rfl) (fun a hf => ?_)
        refine S.val hf hs (v := .agg #[.int .i64 xk1.From, .int .i64 xk1.To]) rfl rfl rfl (V.loadBox 3 rfl rfl rfl Try.isAgg59 Try.sizeOf59 rfl rfl) (fun a hf => ?_)
        refine S.val hf hs (v := .bool (decide (xk2 = xk1))) rfl rfl rfl (V.aggeql rfl rfl rfl (by kernel_rfl) (fun w => eqS59 xk2 xk1 w)) (fun a hf => ?_)
        refine R.nil ?_
        refine X.then_ ?_
        refine C.cond hf (b := decide (xk2 = xk1)) rfl (fun hc => ?_) (fun hc => ?_)
        · replace h := h.1 hc
          refine R.list ?_
          refine S.val hf hs (v := .pointer (some ⟨g2, 3, none⟩)) rfl rfl rfl (V.fieldBox rfl rfl Try.runUnderlying57 rfl Try.sizeOf43 rfl rfl) (fun a hf => ?_)
          refine S.val hf hs (v := .slice l4A l4.length l4C) rfl rfl rfl (V.loadBox 2 rfl rfl rfl Try.isAgg43 Try.sizeOf43 rfl rfl) (fun a hf => ?_)
          refine S.val hf hs (v := .int .i64 (k2 : Int)) rfl rfl rfl (V.pure rfl) (fun a hf => ?_)
          refine S.build1 hf hs rfl rfl rfl (α := Int) (k2 : Int) rfl rfl rfl Try.runUnderlying43 Try.sizeOf3 Try.zeroValue3 rfl (by decide) (fun A3 a w hf hs => ?_)
          obtain ⟨hroom, h⟩ := h
          refine S.appendCells 2 hf hs rfl rfl rfl rfl rfl rfl rfl Try.underlying43 info3 rfl hroom ((hs.ownView 0 rfl).some_ (i := 0) (by simp)) (hs.ownView 0 rfl) (fun A4 C2 a w hf hs => ?_)
          replace hs := hs.drop
          refine S.val hf hs (v := .pointer (some ⟨g2, 3, none⟩)) rfl rfl rfl (V.fieldBox rfl rfl Try.runUnderlying57 rfl Try.sizeOf43 rfl rfl) (fun a hf => ?_)
          refine S.storeBox 2 hf hs rfl rfl [.slice A4 (l4 ++ [(k2 : Int)]).length C2] [.int .i64 xk1.From, .int .i64 xk1.To, .bool (decide ((k1 : Int) < y3)), .slice A4 (l4 ++ [(k2 : Int)]).length C2] rfl rfl rfl rfl rfl Try.sizeOf43 rfl rfl rfl rfl (fun a w hf hs => ?_)
          refine R.nil ?_
          refine X.blk ?_
          refine X.then_ ?_
          refine R.list ?_
          refine S.val hf hs (v := .int .i64 ((k2 + 1 : Nat) : Int)) rfl rfl rfl (V.incr rfl rfl rfl hltk2 hlenk2) (fun a hf => ?_)
          refine S.val hf hs (v := .int .i64 ((k2 + 1 : Nat) : Int)) rfl rfl rfl (V.pure rfl) (fun a hf => ?_)
          refine R.nil ?_
          refine X.then_ ?_
          exact ⟨xk2, llk2, rfl, k2 + 1, (l4 ++ [(k2 : Int)]), A4, C2, range_drop hlk2, range_len hkk2, (by rw [hnext2] at h; exact h), (((((((((((hf.nil.cons (hf.get 47 _ rfl)).cons (hf.get 46 _ rfl)).cons (hf.get 33 _ rfl)).cons (hf.get 32 _ rfl)).cons (hf.get 31 _ rfl)).cons (hf.get 14 _ rfl)).cons (hf.get 13 _ rfl)).cons (hf.get 11 _ rfl)).cons (hf.get 10 _ rfl)).cons (hf.get 2 _ rfl)).cons (hf.get 48 _ rfl)), hs.drop⟩
        · replace h := h.2 hc
          refine wp_skip ?_
          refine X.blk ?_
          refine X.then_ ?_
          refine R.list ?_
          refine S.val hf hs (v := .int .i64 ((k2 + 1 : Nat) : Int)) rfl rfl rfl (V.incr rfl rfl rfl hltk2 hlenk2) (fun a hf => ?_)
          refine S.val hf hs (v := .int .i64 ((k2 + 1 : Nat) : Int)) rfl rfl rfl (V.pure rfl) (fun a hf => ?_)
          refine R.nil ?_
          refine X.then_ ?_
          exact ⟨xk2, llk2, rfl, k2 + 1, l4, l4A, l4C, range_drop hlk2, range_len hkk2, (by rw [hnext2] at h; exact h), (((((((((((hf.nil.cons (hf.get 47 _ rfl)).cons (hf.get 46 _ rfl)).cons (hf.get 33 _ rfl)).cons (hf.get 32 _ rfl)).cons (hf.get 31 _ rfl)).cons (hf.get 14 _ rfl)).cons (hf.get 13 _ rfl)).cons (hf.get 11 _ rfl)).cons (hf.get 10 _ rfl)).cons (hf.get 2 _ rfl)).cons (hf.get 48 _ rfl)), hs.drop⟩

set_option linter.unusedVariables false
def M_stack_Cycles_L2 (xk1 : Through) (next1 : List Int → Prop) (again2 : List Int → Int → Prop) (l4 : List Int) (n2 : Int) : Prop :=
  cnd (decide (n2 ≤ xk1.To)) (idx l4 (w64 (n2 - 1)) fun x1 => again2 (l4.set ((w64 (n2 - 1)).toNat) (w64 (x1 + 1))) (w64 (n2 + 1))) (next1 l4)
def M_stack_Cycles_L1  (k1 : Nat) (xk1 : Through) (l2 : List Int) (next1 : List Int → Prop) : Prop :=
  lp (fun again (s : List Int × Int) => M_stack_Cycles_L2 xk1 next1 (fun l4 n2 => again (l4, n2)) s.1 s.2) (l2, xk1.From)
def M_stack_Cycles (m : (List Material)) (s_ : (List Layer)) (l : (List Through)) (Q : (List Int) → Int → Prop) : Prop :=
  M_stack_CheckSpans m s_ l fun y1 => cnd (y1 != 0) (Q ([] : List Int) y1) (M_stack_boards m s_ l fun y2 y3 => M_stack_coppers m s_ fun y4 => must (0 ≤ (y4.length : Int) ∧ (y4.length : Int) * 8 ≤ 281474976710656) (must (0 ≤ y3 ∧ y3 ≤ (y2.length : Int) ∧ (y2.length : Int) ≤ (y2.length : Int)) (forIn' (fun k x (s : List Int) next => M_stack_Cycles_L1 k x s (fun l2 => next l2)) (fun (s : List Int) => (fun (l2 : List Int) => Q l2 0) s) (seg y2 y3 (y2.length : Int)) 0 (List.replicate y4.length (0 : Int)))))
set_option maxHeartbeats 1000000 in
theorem R_stack_Cycles (m : (List Material)) (s_ : (List Layer)) (l : (List Through)) (w0 : World) (mA : Option Addr) (mC : Nat) (hv_m : View w0 (old w0 none_) mA mC m) (s_A : Option Addr) (s_C : Nat) (hv_s_ : View w0 (old w0 none_) s_A s_C s_) (lA : Option Addr) (lC : Nat) (hv_l : View w0 (old w0 none_) lA lC l) (Q : (List Int) → Int → Prop) (h : M_stack_Cycles m s_ l Q) :
    Ret Try.prog 39 #[.slice mA m.length mC, .slice s_A s_.length s_C, .slice lA l.length lC] w0 fun v w' => ∃ (r0 : (List Int)) (r0A : Option Addr) (r0C : Nat) (r1 : Int), v = .tuple #[.slice r0A r0.length r0C, .int .i64 r1] ∧ Q r0 r1 ∧ Sat w0 none_ [hown 3 r0A r0C r0] w' := by
  refine fn_enter Try.func39 rfl Try.ntmps39 rfl (fs := [(0, .slice mA m.length mC), (1, .slice s_A s_.length s_C), (2, .slice lA l.length lC)]) rfl (fun a hf => ?_)
  have hs := Sat.start w0 none_
  unfold M_stack_Cycles at h
  refine wp_seq ?_
  refine R.list ?_
  refine S.val hf hs (v := .slice none 0 0) rfl rfl rfl (V.pure rfl) (fun a hf => ?_)
  refine S.val hf hs (v := .int .i64 0) rfl rfl rfl (V.pure rfl) (fun a hf => ?_)
  refine R.nil ?_
  refine X.then_ ?_
  refine wp_seq ?_
  refine wp_seq ?_
  refine R.list ?_
  refine S.val hf hs (v := .slice mA m.length mC) rfl rfl rfl (V.pure rfl) (fun a hf => ?_)
  refine S.val hf hs (v := .slice s_A s_.length s_C) rfl rfl rfl (V.pure rfl) (fun a hf => ?_)
  refine S.val hf hs (v := .slice lA l.length lC) rfl rfl rfl (V.pure rfl) (fun a hf => ?_)
  refine S.call hf rfl rfl rfl (call_fn (vs := [.slice mA m.length mC, .slice s_A s_.length s_C, .slice lA l.length lC]) rfl rfl rfl Try.call44) (R_stack_CheckSpans m s_ l _ mA mC ((Ag.args _ _ _).view hv_m hs) s_A s_C ((Ag.args _ _ _).view hv_s_ hs) lA lC ((Ag.args _ _ _).view hv_l hs) _ h) (fun v a w' hf hr => ?_)
  obtain ⟨y1, rfl, h2, hs2⟩ := hr
  replace h := h2; replace hs := hs.call hs2; clear h2 hs2
  refine S.val hf hs (v := .int .i64 y1) rfl rfl rfl (V.pure rfl) (fun a hf => ?_)
  refine R.nil ?_
  refine X.then_ ?_
  refine wp_seq ?_
  refine R.list ?_
  refine S.val hf hs (v := .int .i64 y1) rfl rfl rfl (V.pure rfl) (fun a hf => ?_)
  refine S.val hf hs (v := .bool (y1 != 0)) rfl rfl rfl (V.pure rfl) (fun a hf => ?_)
  refine R.nil ?_
  refine X.then_ ?_
  refine C.cond hf (b := y1 != 0) rfl (fun hc => ?_) (fun hc => ?_)
  · replace h := h.1 hc
    refine wp_seq ?_
    refine R.list ?_
    refine S.val hf hs (v := .int .i64 y1) rfl rfl rfl (V.pure rfl) (fun a hf => ?_)
    refine S.val hf hs (v := .slice none 0 0) rfl rfl rfl (V.pure rfl) (fun a hf => ?_)
    refine S.val hf hs (v := .int .i64 y1) rfl rfl rfl (V.pure rfl) (fun a hf => ?_)
    refine R.nil ?_
    refine X.then_ ?_
    refine wp_ret ?_
    refine X.then_ret ?_
    replace hs := hs.nilOwn (α := Int) 3
    replace hs := hs.take 1
    exact L.ret hf (run_results2 Try.results39 (ResIs.tmp hf rfl) (ResIs.tmp hf rfl)) ⟨([] : List Int), none, 0, y1, rfl, h, hs⟩
  · replace h := h.2 hc
    refine wp_skip ?_
    refine X.then_ ?_
    refine wp_seq ?_
    refine R.list ?_
    refine S.val hf hs (v := .slice mA m.length mC) rfl rfl rfl (V.pure rfl) (fun a hf => ?_)
    refine S.val hf hs (v := .slice s_A s_.length s_C) rfl rfl rfl (V.pure rfl) (fun a hf => ?_)
    refine S.val hf hs (v := .slice lA l.length lC) rfl rfl rfl (V.pure rfl) (fun a hf => ?_)
    refine S.call hf rfl rfl rfl (call_fn (vs := [.slice mA m.length mC, .slice s_A s_.length s_C, .slice lA l.length lC]) rfl rfl rfl Try.call76) (R_stack_boards m s_ l _ mA mC ((Ag.args _ _ _).view hv_m hs) s_A s_C ((Ag.args _ _ _).view hv_s_ hs) lA lC ((Ag.args _ _ _).view hv_l hs) _ h) (fun v a w' hf hr => ?_)
    obtain ⟨y2, y2A, y2C, y3, rfl, h2, hs2⟩ := hr
    replace h := h2; replace hs := hs.call hs2; clear h2 hs2
    refine S.val hf hs (v := .tuple #[.slice y2A y2.length y2C, .int .i64 y3]) rfl rfl rfl (V.pure rfl) (fun a hf => ?_)
    refine S.val hf hs (v := .slice y2A y2.length y2C) rfl rfl rfl (V.pure rfl) (fun a hf => ?_)
    refine S.val hf hs (v := .int .i64 y3) rfl rfl rfl (V.pure rfl) (fun a hf => ?_)
    refine S.val hf hs (v := .slice y2A y2.length y2C) rfl rfl rfl (V.pure rfl) (fun a hf => ?_)
    refine S.val hf hs (v := .int .i64 y3) rfl rfl rfl (V.pure rfl) (fun a hf => ?_)
    refine R.nil ?_
    refine X.then_ ?_
    refine wp_seq ?_
    refine R.list ?_
    refine S.val hf hs (v := .slice mA m.length mC) rfl rfl rfl (V.pure rfl) (fun a hf => ?_)
    refine S.val hf hs (v := .slice s_A s_.length s_C) rfl rfl rfl (V.pure rfl) (fun a hf => ?_)
    refine S.call hf rfl rfl rfl (call_fn (vs := [.slice mA m.length mC, .slice s_A s_.length s_C]) rfl rfl rfl Try.call61) (R_stack_coppers m s_ _ mA mC ((Ag.args _ _ _).view hv_m hs) s_A s_C ((Ag.args _ _ _).view hv_s_ hs) _ h) (fun v a w' hf hr => ?_)
    obtain ⟨y4, y4A, y4C, rfl, h2, hs2⟩ := hr
    replace h := h2; replace hs := hs.call hs2; clear h2 hs2
    refine S.val hf hs (v := .int .i64 (y4.length : Int)) rfl rfl rfl (V.len rfl rfl Try.runUnderlying43) (fun a hf => ?_)
    obtain ⟨hmk, h⟩ := h
    refine S.make hf hs rfl rfl rfl (α := Int) (0 : Int) (z := (y4.length : Int)) (N := y4.length) rfl rfl rfl Try.underlying43 info3 hmk rfl (by have := hmk.2; omega) (fun A1 a w hf hs => ?_)
    refine S.val hf hs (v := .slice A1 (List.replicate y4.length (0 : Int)).length y4.length) rfl rfl rfl (V.pure rfl) (fun a hf => ?_)
    refine R.nil ?_
    refine X.then_ ?_
    refine wp_seq ?_
    refine wp_seq ?_
    refine R.list ?_
    refine S.val hf hs (v := .slice y2A y2.length y2C) rfl rfl rfl (V.pure rfl) (fun a hf => ?_)
    refine S.val hf hs (v := .int .i64 y3) rfl rfl rfl (V.pure rfl) (fun a hf => ?_)
    obtain ⟨hp1, h⟩ := h
    refine S.val hf hs (v := .slice (segA y2A y2C (y3 : Int).toNat 2) (seg y2 y3 (y2.length : Int)).length (y2C - (y3 : Int).toNat)) rfl rfl rfl (V.slice rfl rfl rfl rfl Try.runUnderlying52 Try.sizeOf59 rfl rfl hp1 (hs.ownView 2 rfl).cap (seg_length (by have := hp1.2.2; omega))) (fun a hf => ?_)
    refine S.val hf hs (v := .int .i64 ((seg y2 y3 (y2.length : Int)).length : Int)) rfl rfl rfl (V.len rfl rfl Try.runUnderlying52) (fun a hf => ?_)
    refine S.val hf hs (v := .int .i64 0) rfl rfl rfl (V.pure rfl) (fun a hf => ?_)
    refine R.nil ?_
    refine X.then_ ?_
    refine wp_block ?_
    have hlenk1 := (View.sub (hs.ownView 2 rfl) hp1).len64
    refine C.range (fun (ll : List Through) a w => ∃ (k1 : Nat) (l2 : List Int) (l2A : Option Addr) (l2C : Nat), (seg y2 y3 (y2.length : Int)).drop k1 = ll ∧ k1 + ll.length = (seg y2 y3 (y2.length : Int)).length ∧ forIn' (fun k x (s : List Int) next => M_stack_Cycles_L1 k x s (fun l2 => next l2)) (fun (s : List Int) => (fun (l2 : List Int) => Q l2 0) s) ll k1 l2 ∧ FrOk 59 [(38, .int .i64 (k1 : Int)), (11, .slice l2A l2.length l2C), (36, .slice (segA y2A y2C (y3 : Int).toNat 2) (seg y2 y3 (y2.length : Int)).length (y2C - (y3 : Int).toNat)), (37, .int .i64 ((seg y2 y3 (y2.length : Int)).length : Int))] a ∧ Sat w0 none_ [hown 3 l2A l2C l2, hown 3 y4A y4C y4, hown 59 y2A y2C y2] w) (seg y2 y3 (y2.length : Int)) ⟨0, (List.replicate y4.length (0 : Int)), A1, y4.length, rfl, Nat.zero_add _, h, ((((hf.nil.cons (hf.get 37 _ rfl)).cons (hf.get 36 _ rfl)).cons (hf.get 11 _ rfl)).cons (hf.get 38 _ rfl)), hs⟩ ?_
    clear h hf hs
    rintro llk1 a w ⟨k1, l2, l2A, l2C, hlk1, hkk1, h, hf, hs⟩
    cases llk1 with
    | nil =>
      have hc := range_done hkk1
      replace h : (fun (l2 : List Int) => Q l2 0) l2 := h
      refine wp_seq ?_
      refine R.list ?_
      refine S.val hf hs (v := .bool false) rfl rfl rfl (V.cmp false rfl rfl rfl rfl hc) (fun a hf => ?_)
      refine R.nil ?_
      refine X.then_ ?_
      refine wp_seq ?_
      refine C.no hf rfl ?_
      refine wp_exit ?_
      refine X.then_exit ?_
      refine X.then_exit ?_
      refine X.blk_exit ?_
      refine X.then_ ?_
      refine wp_seq ?_
      refine R.list ?_
      refine S.val hf hs (v := .slice l2A l2.length l2C) rfl rfl rfl (V.pure rfl) (fun a hf => ?_)
      refine S.val hf hs (v := .slice l2A l2.length l2C) rfl rfl rfl (V.pure rfl) (fun a hf => ?_)
      refine S.val hf hs (v := .int .i64 0) rfl rfl rfl (V.pure rfl) (fun a hf => ?_)
      refine R.nil ?_
      refine X.then_ ?_
      refine wp_ret ?_
      replace hs := hs.take 1
      exact L.ret hf (run_results2 Try.results39 (ResIs.tmp hf rfl) (ResIs.tmp hf rfl)) ⟨l2, l2A, l2C, 0, rfl, h, hs⟩
    | cons xk1 llk1 =>
      have hltk1 := range_lt hkk1; have hc := range_go hkk1; have hxk1 := range_get hlk1
      obtain ⟨next1, hnext1⟩ : ∃ X : List Int → Prop, X = (fun l2 => forIn' (fun k x (s : List Int) next => M_stack_Cycles_L1 k x s (fun l2 => next l2)) (fun (s : List Int) => (fun (l2 : List Int) => Q l2 0) s) llk1 (k1 + 1) l2) := ⟨_, rfl⟩
      replace h : M_stack_Cycles_L1 k1 xk1 l2 next1 := by rw [hnext1]; exact h
      unfold M_stack_Cycles_L1 at h
      refine wp_seq ?_
      refine R.list ?_
      refine S.val hf hs (v := .bool true) rfl rfl rfl (V.cmp true rfl rfl rfl rfl hc) (fun a hf => ?_)
      refine R.nil ?_
      refine X.then_ ?_
      refine wp_seq ?_
      refine C.yes hf rfl ?_
      refine wp_skip ?_
      refine X.then_ ?_
      refine wp_seq ?_
      refine wp_block ?_
      refine wp_seq ?_
      refine R.list ?_
      have hx1 := seg_get hxk1
      refine S.val hf hs (v := elemPtr y2A (((y3 : Int).toNat + k1) * 2)) rfl rfl rfl (V.indexSub (lo := y3) rfl rfl rfl Try.runUnderlying52 Try.sizeOf59 (hs.ownSome 2 rfl (lt_of_get hx1)) (Int.natCast_nonneg _) (lt_of_get hxk1) (seg_fits hp1 (hs.ownView 2 rfl).cap) rfl) (fun a hf => ?_)
      refine S.val hf hs (v := .agg #[.int .i64 xk1.From, .int .i64 xk1.To]) rfl rfl rfl (V.loadOwn (off := 0) 2 rfl hx1 rfl rfl rfl Try.isAgg59 Try.sizeOf59 rfl rfl) (fun a hf => ?_)
      refine S.alloc hf hs rfl rfl rfl [.int .i64 0, .int .i64 0] rfl Try.zeroValue59 rfl (fun g1 a w hf hs => ?_)
      refine S.storeBox 0 hf hs rfl rfl [.int .i64 xk1.From, .int .i64 xk1.To] [.int .i64 xk1.From, .int .i64 xk1.To] rfl rfl rfl rfl rfl Try.sizeOf59 rfl rfl rfl rfl (fun a w hf hs => ?_)
      refine R.nil ?_
      refine X.then_ ?_
      refine wp_seq ?_
      refine R.list ?_
      refine S.val hf hs (v := .pointer (some ⟨g1, 0, none⟩)) rfl rfl rfl (V.fieldBox rfl rfl Try.runUnderlying59 rfl Try.sizeOf3 rfl rfl) (fun a hf => ?_)
      refine S.val hf hs (v := .int .i64 xk1.From) rfl rfl rfl (V.loadBox 0 rfl rfl rfl Try.isAgg3 Try.sizeOf3 rfl rfl) (fun a hf => ?_)
      refine S.val hf hs (v := .int .i64 xk1.From) rfl rfl rfl (V.pure rfl) (fun a hf => ?_)
      refine R.nil ?_
      refine X.then_ ?_
      refine wp_block ?_
      obtain ⟨kk, h⟩ := h
      refine C.loop (fun kk a w => ∃ (l4 : List Int) (l4A : Option Addr) (l4C : Nat) (n2 : Int), iterF (fun again (s : List Int × Int) => M_stack_Cycles_L2 xk1 next1 (fun l4 n2 => again (l4, n2)) s.1 s.2) kk (l4, n2) ∧ FrOk 59 [(11, .slice l4A l4.length l4C), (13, .pointer (some ⟨g1, 0, none⟩)), (14, .int .i64 n2), (36, .slice (segA y2A y2C (y3 : Int).toNat 2) (seg y2 y3 (y2.length : Int)).length (y2C - (y3 : Int).toNat)), (37, .int .i64 ((seg y2 y3 (y2.length : Int)).length : Int)), (38, .int .i64 (k1 : Int))] a ∧ Sat w0 none_ [hbox g1 59 [.int .i64 xk1.From, .int .i64 xk1.To], hown 3 l4A l4C l4, hown 3 y4A y4C y4, hown 59 y2A y2C y2] w) kk ⟨l2, l2A, l2C, xk1.From, h, ((((((hf.nil.cons (hf.get 38 _ rfl)).cons (hf.get 37 _ rfl)).cons (hf.get 36 _ rfl)).cons (hf.get 14 _ rfl)).cons (hf.get 13 _ rfl)).cons (hf.get 11 _ rfl)), hs⟩ (fun a w ⟨_, _, _, _, h, _, _⟩ => h) ?_
      clear h hf hs
      rintro kk a w ⟨l4, l4A, l4C, n2, h, hf, hs⟩
      obtain ⟨again2, hagain2⟩ : ∃ X : List Int → Int → Prop, X = (fun l4 n2 => iterF (fun again (s : List Int × Int) => M_stack_Cycles_L2 xk1 next1 (fun l4 n2 => again (l4, n2)) s.1 s.2) kk (l4, n2)) := ⟨_, rfl⟩
      replace h : M_stack_Cycles_L2 xk1 next1 again2 l4 n2 := by rw [hagain2]; exact h
      unfold M_stack_Cycles_L2 at h
      refine wp_seq ?_
      refine wp_seq ?_
      refine R.list ?_
      refine S.val hf hs (v := .int .i64 n2) rfl rfl rfl (V.pure rfl) (fun a hf => ?_)
      refine S.val hf hs (v := .pointer (some ⟨g1, 1, none⟩)) rfl rfl rfl (V.fieldBox rfl rfl Try.runUnderlying59 rfl Try.sizeOf3 rfl rfl) (fun a hf => ?_)
      refine S.val hf hs (v := .int .i64 xk1.To) rfl rfl rfl (V.loadBox 0 rfl rfl rfl Try.isAgg3 Try.sizeOf3 rfl rfl) (fun a hf => ?_)
      refine S.val hf hs (v := .bool (decide (n2 ≤ xk1.To))) rfl rfl rfl (V.pure rfl) (fun a hf => ?_)
      refine R.nil ?_
      refine X.then_ ?_
      refine C.cond hf (b := decide (n2 ≤ xk1.To)) rfl (fun hc => ?_) (fun hc => ?_)
      · replace h := h.1 hc
        refine wp_skip ?_
        refine X.then_ ?_
        refine wp_seq ?_
        refine wp_block ?_
        refine R.list ?_
        refine S.val hf hs (v := .slice l4A l4.length l4C) rfl rfl rfl (V.pure rfl) (fun a hf => ?_)
        refine S.val hf hs (v := .int .i64 n2) rfl rfl rfl (V.pure rfl) (fun a hf => ?_)
        refine S.val hf hs (v := .int .i64 (w64 (n2 - 1))) rfl rfl rfl (V.pure rfl) (fun a hf => ?_)
        obtain ⟨h0x1, x1, hx1, h⟩ := h
        refine S.val hf hs (v := elemPtr l4A ((w64 (n2 - 1)).toNat * 1)) rfl rfl rfl (V.index rfl rfl rfl Try.runUnderlying43 Try.sizeOf3 (hs.ownSome 1 rfl (lt_of_get hx1)) h0x1 (lt_of_get hx1) rfl) (fun a hf => ?_)
        refine S.val hf hs (v := .int .i64 x1) rfl rfl rfl (V.loadOwn (off := 0) 1 rfl hx1 rfl rfl rfl Try.isAgg3 Try.sizeOf3 rfl rfl) (fun a hf => ?_)
        refine S.val hf hs (v := .int .i64 (w64 (x1 + 1))) rfl rfl rfl (V.pure rfl) (fun a hf => ?_)
        refine S.val hf hs (v := elemPtr l4A ((w64 (n2 - 1)).toNat * 1)) rfl rfl rfl (V.index rfl rfl rfl Try.runUnderlying43 Try.sizeOf3 (hs.ownSome 1 rfl (lt_of_get hx1)) h0x1 (lt_of_get hx1) rfl) (fun a hf => ?_)
        refine S.storeOwn (off := 0) 1 hf hs rfl rfl (w64 (x1 + 1)) [.int .i64 (w64 (x1 + 1))] rfl hx1 rfl rfl rfl rfl rfl Try.sizeOf3 rfl (by decide) rfl rfl (fun a w hf hs => ?_)
        replace hf := hf.tell 11 (v := .slice l4A (l4.set ((w64 (n2 - 1)).toNat) (w64 (x1 + 1))).length l4C) ((hf.get 11 (.slice l4A l4.length l4C) rfl).trans (congrArg (fun n => Value.slice l4A n l4C) List.length_set.symm))
        replace hf := hf.tell 50 (v := .slice l4A (l4.set ((w64 (n2 - 1)).toNat) (w64 (x1 + 1))).length l4C) ((hf.get 50 (.slice l4A l4.length l4C) rfl).trans (congrArg (fun n => Value.slice l4A n l4C) List.length_set.symm))
        refine R.nil ?_
        refine X.blk ?_
        refine X.then_ ?_
        refine R.list ?_
        refine S.val hf hs (v := .int .i64 n2) rfl rfl rfl (V.pure rfl) (fun a hf => ?_)
        refine S.val hf hs (v := .int .i64 (w64 (n2 + 1))) rfl rfl rfl (V.pure rfl) (fun a hf => ?_)
        refine S.val hf hs (v := .int .i64 (w64 (n2 + 1))) rfl rfl rfl (V.pure rfl) (fun a hf => ?_)
        refine R.nil ?_
        refine X.then_ ?_
        exact ⟨(l4.set ((w64 (n2 - 1)).toNat) (w64 (x1 + 1))), l4A, l4C, (w64 (n2 + 1)), (by rw [hagain2] at h; exact h), ((((((hf.nil.cons (hf.get 38 _ rfl)).cons (hf.get 37 _ rfl)).cons (hf.get 36 _ rfl)).cons (hf.get 14 _ rfl)).cons (hf.get 13 _ rfl)).cons (hf.get 11 _ rfl)), hs⟩
      · replace h := h.2 hc
        refine wp_exit ?_
        refine X.then_exit ?_
        refine X.then_exit ?_
        refine X.blk_exit ?_
        refine X.blk ?_
        refine X.then_ ?_
        refine R.list ?_
        refine S.val hf hs (v := .int .i64 ((k1 + 1 : Nat) : Int)) rfl rfl rfl (V.incr rfl rfl rfl hltk1 hlenk1) (fun a hf => ?_)
        refine S.val hf hs (v := .int .i64 ((k1 + 1 : Nat) : Int)) rfl rfl rfl (V.pure rfl) (fun a hf => ?_)
        refine R.nil ?_
        refine X.then_ ?_
        exact ⟨xk1, llk1, rfl, k1 + 1, l4, l4A, l4C, range_drop hlk1, range_len hkk1, (by rw [hnext1] at h; exact h), ((((hf.nil.cons (hf.get 37 _ rfl)).cons (hf.get 36 _ rfl)).cons (hf.get 11 _ rfl)).cons (hf.get 38 _ rfl)), hs.drop⟩

set_option linter.unusedVariables false
def M_ref4_Presses_L2 (xk1 : R4Sub) (k2 : Nat) (xk2 : Through) (l4 : List Int) (next2 : List Int → Prop) : Prop :=
  cnd (decide (xk2 = xk1.Through)) (must (room (l4 ++ [(k2 : Int)]).length 8) (next2 (l4 ++ [(k2 : Int)]))) (next2 l4)
def M_ref4_Presses_L1 (l : (List Through)) (k1 : Nat) (xk1 : R4Sub) (l2 : List Press) (next1 : List Press → Prop) : Prop :=
  forIn' (fun k x (s : List Int) next => M_ref4_Presses_L2 xk1 k x s (fun l4 => next l4)) (fun (s : List Int) => (fun (l4 : List Int) => must (room (l2 ++ [(⟨xk1.Through.From, xk1.Through.To, xk1.core, l4⟩ : Press)]).length 48) (next1 (l2 ++ [(⟨xk1.Through.From, xk1.Through.To, xk1.core, l4⟩ : Press)]))) s) l 0 ([] : List Int)
def M_ref4_Presses (m : (List Material)) (s_ : (List Layer)) (l : (List Through)) (Q : (List Press) → Int → Prop) : Prop :=
  M_ref4_CheckSpans m s_ l fun y1 => cnd (y1 != 0) (Q ([] : List Press) y1) (M_ref4_subs m s_ l fun y2 => forIn' (fun k x (s : List Press) next => M_ref4_Presses_L1 l k x s (fun l2 => next l2)) (fun (s : List Press) => (fun (l2 : List Press) => Q l2 0) s) y2 0 ([] : List Press))
set_option maxHeartbeats 1000000 in
theorem R_ref4_Presses (m : (List Material)) (s_ : (List Layer)) (l : (List Through)) (w0 : World) (mA : Option Addr) (mC : Nat) (hv_m : View w0 (old w0 none_) mA mC m) (s_A : Option Addr) (s_C : Nat) (hv_s_ : View w0 (old w0 none_) s_A s_C s_) (lA : Option Addr) (lC : Nat) (hv_l : View w0 (old w0 none_) lA lC l) (Q : (List Press) → Int → Prop) (h : M_ref4_Presses m s_ l Q) :
    Ret Try.prog 45 #[.slice mA m.length mC, .slice s_A s_.length s_C, .slice lA l.length lC] w0 fun v w' => ∃ (r0 : (List Press)) (r0A : Option Addr) (r0C : Nat) (r0as : List (Option Addr × Nat)) (r1 : Int), v = .tuple #[.slice r0A r0.length r0C, .int .i64 r1] ∧ Q r0 r1 ∧ Sat w0 none_ [hrows 57 3 r0A r0C r0as r0] w' := by
  refine fn_enter Try.func45 rfl Try.ntmps45 rfl (fs := [(0, .slice mA m.length mC), (1, .slice s_A s_.length s_C), (2, .slice lA l.length lC)]) rfl (fun a hf => ?_)
  have hs := Sat.start w0 none_
  unfold M_ref4_Presses at h
  refine wp_seq ?_
  refine R.list ?_
  refine S.val hf hs (v := .slice none 0 0) rfl rfl rfl (V.pure rfl) (fun a hf => ?_)
  refine S.val hf hs (v := .int .i64 0) rfl rfl rfl (V.pure rfl) (fun a hf => ?_)
  refine R.nil ?_
  refine X.then_ ?_
  refine wp_seq ?_
  refine wp_seq ?_
  refine R.list ?_
  refine S.val hf hs (v := .slice mA m.length mC) rfl rfl rfl (V.pure rfl) (fun a hf => ?_)
  refine S.val hf hs (v := .slice s_A s_.length s_C) rfl rfl rfl (V.pure rfl) (fun a hf => ?_)
  refine S.val hf hs (v := .slice lA l.length lC) rfl rfl rfl (V.pure rfl) (fun a hf => ?_)
  refine S.call hf rfl rfl rfl (call_fn (vs := [.slice mA m.length mC, .slice s_A s_.length s_C, .slice lA l.length lC]) rfl rfl rfl Try.call46) (R_ref4_CheckSpans m s_ l _ mA mC ((Ag.args _ _ _).view hv_m hs) s_A s_C ((Ag.args _ _ _).view hv_s_ hs) lA lC ((Ag.args _ _ _).view hv_l hs) _ h) (fun v a w' hf hr => ?_)
  obtain ⟨y1, rfl, h2, hs2⟩ := hr
  replace h := h2; replace hs := hs.call hs2; clear h2 hs2
  refine S.val hf hs (v := .int .i64 y1) rfl rfl rfl (V.pure rfl) (fun a hf => ?_)
  refine R.nil ?_
  refine X.then_ ?_
  refine wp_seq ?_
  refine R.list ?_
  refine S.val hf hs (v := .int .i64 y1) rfl rfl rfl (V.pure rfl) (fun a hf => ?_)
  refine S.val hf hs (v := .bool (y1 != 0)) rfl rfl rfl (V.pure rfl) (fun a hf => ?_)
  refine R.nil ?_
  refine X.then_ ?_
  refine C.cond hf (b := y1 != 0) rfl (fun hc => ?_) (fun hc => ?_)
  · replace h := h.1 hc
    refine wp_seq ?_
    refine R.list ?_
    refine S.val hf hs (v := .int .i64 y1) rfl rfl rfl (V.pure rfl) (fun a hf => ?_)
    refine S.val hf hs (v := .slice none 0 0) rfl rfl rfl (V.pure rfl) (fun a hf => ?_)
    refine S.val hf hs (v := .int .i64 y1) rfl rfl rfl (V.pure rfl) (fun a hf => ?_)
    refine R.nil ?_
    refine X.then_ ?_
    refine wp_ret ?_
    refine X.then_ret ?_
    replace hs := hs.nilRows (α := Press) 57 3
    replace hs := hs.take 1
    exact L.ret hf (run_results2 Try.results45 (ResIs.tmp hf rfl) (ResIs.tmp hf rfl)) ⟨([] : List Press), none, 0, [], y1, rfl, h, hs⟩
  · replace h := h.2 hc
    refine wp_skip ?_
    refine X.then_ ?_
    refine wp_seq ?_
    refine R.list ?_
    refine S.val hf hs (v := .slice none 0 0) rfl rfl rfl (V.pure rfl) (fun a hf => ?_)
    refine R.nil ?_
    refine X.then_ ?_
    refine wp_seq ?_
    refine wp_seq ?_
    refine R.list ?_
    refine S.val hf hs (v := .slice mA m.length mC) rfl rfl rfl (V.pure rfl) (fun a hf => ?_)
    refine S.val hf hs (v := .slice s_A s_.length s_C) rfl rfl rfl (V.pure rfl) (fun a hf => ?_)
    refine S.val hf hs (v := .slice lA l.length lC) rfl rfl rfl (V.pure rfl) (fun a hf => ?_)
    refine S.call hf rfl rfl rfl (call_fn (vs := [.slice mA m.length mC, .slice s_A s_.length s_C, .slice lA l.length lC]) rfl rfl rfl Try.call85) (R_ref4_subs m s_ l _ mA mC ((Ag.args _ _ _).view hv_m hs) s_A s_C ((Ag.args _ _ _).view hv_s_ hs) lA lC ((Ag.args _ _ _).view hv_l hs) _ h) (fun v a w' hf hr => ?_)
    obtain ⟨y2, y2A, y2C, rfl, h2, hs2⟩ := hr
    replace h := h2; replace hs := hs.call hs2; clear h2 hs2
    refine S.val hf hs (v := .int .i64 (y2.length : Int)) rfl rfl rfl (V.len rfl rfl Try.runUnderlying110) (fun a hf => ?_)
    refine S.val hf hs (v := .int .i64 0) rfl rfl rfl (V.pure rfl) (fun a hf => ?_)
    refine R.nil ?_
    refine X.then_ ?_
    refine wp_block ?_
    replace hs := hs.nilRows (α := Press) 57 3
    have hlenk1 := (hs.ownView 1 rfl).len64
    refine C.range (fun (ll : List R4Sub) a w => ∃ (k1 : Nat) (l2 : List Press) (l2A : Option Addr) (l2C : Nat) (l2as : List (Option Addr × Nat)), y2.drop k1 = ll ∧ k1 + ll.length = y2.length ∧ forIn' (fun k x (s : List Press) next => M_ref4_Presses_L1 l k x s (fun l2 => next l2)) (fun (s : List Press) => (fun (l2 : List Press) => Q l2 0) s) ll k1 l2 ∧ FrOk 64 [(27, .int .i64 (k1 : Int)), (2, .slice lA l.length lC), (9, .slice l2A l2.length l2C), (25, .slice y2A y2.length y2C), (26, .int .i64 (y2.length : Int))] a ∧ Sat w0 none_ [hrows 57 3 l2A l2C l2as l2, hown 113 y2A y2C y2] w) y2 ⟨0, ([] : List Press), none, 0, ([] : List (Option Addr × Nat)), rfl, Nat.zero_add _, h, (((((hf.nil.cons (hf.get 26 _ rfl)).cons (hf.get 25 _ rfl)).cons (hf.get 9 _ rfl)).cons (hf.get 2 _ rfl)).cons (hf.get 27 _ rfl)), hs⟩ ?_
    clear h hf hs
    rintro llk1 a w ⟨k1, l2, l2A, l2C, l2as, hlk1, hkk1, h, hf, hs⟩
    cases llk1 with
    | nil =>
      have hc := range_done hkk1
      replace h : (fun (l2 : List Press) => Q l2 0) l2 := h
      refine wp_seq ?_
      refine R.list ?_
      refine S.val hf hs (v := .bool false) rfl rfl rfl (V.cmp false rfl rfl rfl rfl hc) (fun a hf => ?_)
      refine R.nil ?_
      refine X.then_ ?_
      refine wp_seq ?_
      refine C.no hf rfl ?_
      refine wp_exit ?_
      refine X.then_exit ?_
      refine X.then_exit ?_
      refine X.blk_exit ?_
      refine X.then_ ?_
      refine wp_seq ?_
      refine R.list ?_
      refine S.val hf hs (v := .slice l2A l2.length l2C) rfl rfl rfl (V.pure rfl) (fun a hf => ?_)
      refine S.val hf hs (v := .slice l2A l2.length l2C) rfl rfl rfl (V.pure rfl) (fun a hf => ?_)
      refine S.val hf hs (v := .int .i64 0) rfl rfl rfl (V.pure rfl) (fun a hf => ?_)
      refine R.nil ?_
      refine X.then_ ?_
      refine wp_ret ?_
      replace hs := hs.take 1
      exact L.ret hf (run_results2 Try.results45 (ResIs.tmp hf rfl) (ResIs.tmp hf rfl)) ⟨l2, l2A, l2C, l2as, 0, rfl, h, hs⟩
    | cons xk1 llk1 =>
      have hltk1 := range_lt hkk1; have hc := range_go hkk1; have hxk1 := range_get hlk1
      obtain ⟨next1, hnext1⟩ : ∃ X : List Press → Prop, X = (fun l2 => forIn' (fun k x (s : List Press) next => M_ref4_Presses_L1 l k x s (fun l2 => next l2)) (fun (s : List Press) => (fun (l2 : List Press) => Q l2 0) s) llk1 (k1 + 1) l2) := ⟨_, rfl⟩
      replace h : M_ref4_Presses_L1 l k1 xk1 l2 next1 := by rw [hnext1]; exact h
      unfold M_ref4_Presses_L1 at h
      refine wp_seq ?_
      refine R.list ?_
      refine S.val hf hs (v := .bool true) rfl rfl rfl (V.cmp true rfl rfl rfl rfl hc) (fun a hf => ?_)
      refine R.nil ?_
      refine X.then_ ?_
      refine wp_seq ?_
      refine C.yes hf rfl ?_
      refine wp_skip ?_
      refine X.then_ ?_
      refine wp_seq ?_
      refine wp_block ?_
      refine wp_seq ?_
      refine R.list ?_
      refine S.val hf hs (v := elemPtr y2A (k1 * 3)) rfl rfl rfl (V.index rfl rfl rfl Try.runUnderlying110 Try.sizeOf113 (hs.ownSome 1 rfl (lt_of_get hxk1)) (Int.natCast_nonneg _) (lt_of_get hxk1) rfl) (fun a hf => ?_)
      refine S.val hf hs (v := .agg #[.int .i64 xk1.Through.From, .int .i64 xk1.Through.To, .bool xk1.core]) rfl rfl rfl (V.loadOwn (off := 0) 1 rfl hxk1 rfl rfl rfl Try.isAgg113 Try.sizeOf113 rfl rfl) (fun a hf => ?_)
      refine S.alloc hf hs rfl rfl rfl [.int .i64 0, .int .i64 0, .bool false] rfl Try.zeroValue113 rfl (fun g1 a w hf hs => ?_)
      refine S.storeBox 0 hf hs rfl rfl [.int .i64 xk1.Through.From, .int .i64 xk1.Through.To, .bool xk1.core] [.int .i64 xk1.Through.From, .int .i64 xk1.Through.To, .bool xk1.core] rfl rfl rfl rfl rfl Try.sizeOf113 rfl rfl rfl rfl (fun a w hf hs => ?_)
      refine R.nil ?_
      refine X.then_ ?_
      refine wp_seq ?_
      refine R.list ?_
      refine S.val hf hs (v := .pointer (some ⟨g1, 0, none⟩)) rfl rfl rfl (V.fieldBox rfl rfl Try.runUnderlying113 rfl Try.sizeOf59 rfl rfl) (fun a hf => ?_)
      refine S.val hf hs (v := .pointer (some ⟨g1, 0, none⟩)) rfl rfl rfl (V.fieldBox rfl rfl Try.runUnderlying59 rfl Try.sizeOf3 rfl rfl) (fun a hf => ?_)
      refine S.val hf hs (v := .int .i64 xk1.Through.From) rfl rfl rfl (V.loadBox 0 rfl rfl rfl Try.isAgg3 Try.sizeOf3 rfl rfl) (fun a hf => ?_)
      refine S.val hf hs (v := .pointer (some ⟨g1, 0, none⟩)) rfl rfl rfl (V.fieldBox rfl rfl Try.runUnderlying113 rfl Try.sizeOf59 rfl rfl) (fun a hf => ?_)
      refine S.val hf hs (v := .pointer (some ⟨g1, 1, none⟩)) rfl rfl rfl (V.fieldBox rfl rfl Try.runUnderlying59 rfl Try.sizeOf3 rfl rfl) (fun a hf => ?_)
      refine S.val hf hs (v := .int .i64 xk1.Through.To) rfl rfl rfl (V.loadBox 0 rfl rfl rfl Try.isAgg3 Try.sizeOf3 rfl rfl) (fun a hf => ?_)
      refine S.val hf hs (v := .pointer (some ⟨g1, 2, none⟩)) rfl rfl rfl (V.fieldBox rfl rfl Try.runUnderlying113 rfl Try.sizeOf4 rfl rfl) (fun a hf => ?_)
      refine S.val hf hs (v := .bool xk1.core) rfl rfl rfl (V.loadBox 0 rfl rfl rfl Try.isAgg4 Try.sizeOf4 rfl rfl) (fun a hf => ?_)
      refine S.val hf hs (v := .agg #[.int .i64 xk1.Through.From, .int .i64 xk1.Through.To, .bool xk1.core, .slice none 0 0]) rfl rfl rfl (V.build (places := #[(0, 1), (1, 1), (2, 1), (3, 1)]) rfl Try.zeroValue57 Try.runUnderlying57 (by intro w; simp [Try.sizeOf3, Try.sizeOf4, Try.sizeOf43]) rfl rfl) (fun a hf => ?_)
      refine S.alloc hf hs rfl rfl rfl [.int .i64 0, .int .i64 0, .bool false, .slice none 0 0] rfl Try.zeroValue57 rfl (fun g2 a w hf hs => ?_)
      refine S.storeBox 0 hf hs rfl rfl [.int .i64 xk1.Through.From, .int .i64 xk1.Through.To, .bool xk1.core, .slice none 0 0] [.int .i64 xk1.Through.From, .int .i64 xk1.Through.To, .bool xk1.core, .slice none 0 0] rfl rfl rfl rfl rfl Try.sizeOf57 rfl rfl rfl rfl (fun a w hf hs => ?_)
      refine R.nil ?_
      refine X.then_ ?_
      refine wp_seq ?_
      refine wp_seq ?_
      refine R.list ?_
      refine S.val hf hs (v := .slice lA l.length lC) rfl rfl rfl (V.pure rfl) (fun a hf => ?_)
      refine S.val hf hs (v := .int .i64 (l.length : Int)) rfl rfl rfl (V.len rfl rfl Try.runUnderlying52) (fun a hf => ?_)
      refine S.val hf hs (v := .int .i64 0) rfl rfl rfl (V.pure rfl) (fun a hf => ?_)
      refine R.nil ?_
      refine X.then_ ?_
      refine wp_block ?_
      replace hs := hs.nilOwn (α := Int) 3
      replace hs := hs.rebox 1 (vs' := [.int .i64 xk1.Through.From, .int .i64 xk1.Through.To, .bool xk1.core, .slice none ([] : List Int).length 0]) rfl rfl
      have hlenk2 := hv_l.len64
      refine C.range (fun (ll : List Through) a w => ∃ (k2 : Nat) (l4 : List Int) (l4A : Option Addr) (l4C : Nat), l.drop k2 = ll ∧ k2 + ll.length = l.length ∧ forIn' (fun k x (s : List Int) next => M_ref4_Presses_L2 xk1 k x s (fun l4 => next l4)) (fun (s : List Int) => (fun (l4 : List Int) => must (room (l2 ++ [(⟨xk1.Through.From, xk1.Through.To, xk1.core, l4⟩ : Press)]).length 48) (next1 (l2 ++ [(⟨xk1.Through.From, xk1.Through.To, xk1.core, l4⟩ : Press)]))) s) ll k2 l4 ∧ FrOk 64 [(42, .int .i64 (k2 : Int)), (2, .slice lA l.length lC), (9, .slice l2A l2.length l2C), (11, .pointer (some ⟨g1, 0, none⟩)), (12, .pointer (some ⟨g2, 0, none⟩)), (25, .slice y2A y2.length y2C), (26, .int .i64 (y2.length : Int)), (27, .int .i64 (k1 : Int)), (40, .slice lA l.length lC), (41, .int .i64 (l.length : Int))] a ∧ Sat w0 none_ [hown 3 l4A l4C l4, hbox g2 57 [.int .i64 xk1.Through.From, .int .i64 xk1.Through.To, .bool xk1.core, .slice l4A l4.length l4C], hbox g1 113 [.int .i64 xk1.Through.From, .int .i64 xk1.Through.To, .bool xk1.core], hrows 57 3 l2A l2C l2as l2, hown 113 y2A y2C y2] w) l ⟨0, ([] : List Int), none, 0, rfl, Nat.zero_add _, h, ((((((((((hf.nil.cons (hf.get 41 _ rfl)).cons (hf.get 40 _ rfl)).cons (hf.get 27 _ rfl)).cons (hf.get 26 _ rfl)).cons (hf.get 25 _ rfl)).cons (hf.get 12 _ rfl)).cons (hf.get 11 _ rfl)).cons (hf.get 9 _ rfl)).cons (hf.get 2 _ rfl)).cons (hf.get 42 _ rfl)), hs⟩ ?_
      clear h hf hs
      rintro llk2 a w ⟨k2, l4, l4A, l4C, hlk2, hkk2, h, hf, hs⟩
      cases llk2 with
      | nil =>
        have hc := range_done hkk2
        replace h : (fun (l4 : List Int) => must (room (l2 ++ [(⟨xk1.Through.From, xk1.Through.To, xk1.core, l4⟩ : Press)]).length 48) (next1 (l2 ++ [(⟨xk1.Through.From, xk1.Through.To, xk1.core, l4⟩ : Press)]))) l4 := h
        refine wp_seq ?_
        refine R.list ?_
        refine S.val hf hs (v := .bool false) rfl rfl rfl (V.cmp false rfl rfl rfl rfl hc) (fun a hf => ?_)
        refine R.nil ?_
        refine X.then_ ?_
        refine wp_seq ?_
        refine C.no hf rfl ?_
        refine wp_exit ?_
        refine X.then_exit ?_
        refine X.then_exit ?_
        refine X.blk_exit ?_
        refine X.then_ ?_
        refine R.list ?_
        refine S.val hf hs (v := .slice l2A l2.length l2C) rfl rfl rfl (V.pure rfl) (fun a hf => ?_)
        refine S.val hf hs (v := .agg #[.int .i64 xk1.Through.From, .int .i64 xk1.Through.To, .bool xk1.core, .slice l4A l4.length l4C]) rfl rfl rfl (V.loadBox 1 rfl rfl rfl Try.isAgg57 Try.sizeOf57 rfl rfl) (fun a hf => ?_)
        refine S.build1 hf hs rfl rfl rfl (α := PressSh) (⟨xk1.Through.From, xk1.Through.To, xk1.core, ⟨l4A, l4.length, l4C⟩⟩ : PressSh) rfl rfl rfl Try.runUnderlying53 Try.sizeOf57 Try.zeroValue57 rfl (by decide) (fun A1 a w hf hs => ?_)
        replace hs := hs.front 1 rfl
        obtain ⟨hroom, h⟩ := h
        refine S.appendRow 3 hf hs rfl rfl rfl (⟨xk1.Through.From, xk1.Through.To, xk1.core, l4⟩ : Press) rfl rfl rfl rfl rfl Try.underlying53 info57 rfl hroom ((hs.ownView 1 rfl).some_ (i := 0) (by simp)) (hs.ownView 1 rfl) (fun A2 C1 a w hf hs => ?_)
        replace hs := hs.drop
        refine S.val hf hs (v := .slice A2 (l2 ++ [(⟨xk1.Through.From, xk1.Through.To, xk1.core, l4⟩ : Press)]).length C1) rfl rfl rfl (V.pure rfl) (fun a hf => ?_)
        refine R.nil ?_
        refine X.blk ?_
        refine X.then_ ?_
        refine R.list ?_
        refine S.val hf hs (v := .int .i64 ((k1 + 1 : Nat) : Int)) rfl rfl rfl (V.incr rfl rfl rfl hltk1 hlenk1) (fun a hf => ?_)
        refine S.val hf hs (v := .int .i64 ((k1 + 1 : Nat) : Int)) rfl rfl rfl (V.pure rfl) (fun a hf => ?_)
        refine R.nil ?_
        refine X.then_ ?_
        exact ⟨xk1, llk1, rfl, k1 + 1, (l2 ++ [(⟨xk1.Through.From, xk1.Through.To, xk1.core, l4⟩ : Press)]), A2, C1, (l2as ++ [(l4A, l4C)]), range_drop hlk1, range_len hkk1, (by rw [hnext1] at h; exact h), (((((hf.nil.cons (hf.get 26 _ rfl)).cons (hf.get 25 _ rfl)).cons (hf.get 9 _ rfl)).cons (hf.get 2 _ rfl)).cons (hf.get 27 _ rfl)), hs.drop.drop⟩
      | cons xk2 llk2 =>
        have hltk2 := range_lt hkk2; have hc := range_go hkk2; have hxk2 := range_get hlk2
        obtain ⟨next2, hnext2⟩ : ∃ X : List Int → Prop, X = (fun l4 => forIn' (fun k x (s : List Int) next => M_ref4_Presses_L2 xk1 k x s (fun l4 => next l4)) (fun (s : List Int) => (fun (l4 : List Int) => must (room (l2 ++ [(⟨xk1.Through.From, xk1.Through.To, xk1.core, l4⟩ : Press)]).length 48) (next1 (l2 ++ [(⟨xk1.Through.From, xk1.Through.To, xk1.core, l4⟩ : Press)]))) s) llk2 (k2 + 1) l4) := ⟨_, rfl⟩
        replace h : M_ref4_Presses_L2 xk1 k2 xk2 l4 next2 := by rw [hnext2]; exact h
        unfold M_ref4_Presses_L2 at h
        refine wp_seq ?_
        refine R.list ?_
        refine S.val hf hs (v := .bool true) rfl rfl rfl (V.cmp true rfl rfl rfl rfl hc) (fun a hf => ?_)
        refine R.nil ?_
        refine X.then_ ?_
        refine wp_seq ?_
        refine C.yes hf rfl ?_
        refine wp_skip ?_
        refine X.then_ ?_
        refine wp_seq ?_
        refine wp_block ?_
        refine wp_seq ?_
        refine R.list ?_
        refine S.val hf hs (v := .int .i64 (k2 : Int)) rfl rfl rfl (V.pure rfl) (fun a hf => ?_)
        refine S.val hf hs (v := elemPtr lA (k2 * 2)) rfl rfl rfl (V.index rfl rfl rfl Try.runUnderlying52 Try.sizeOf59 (hv_l.some_ (lt_of_get hxk2)) (Int.natCast_nonneg _) (lt_of_get hxk2) rfl) (fun a hf => ?_)
        refine S.val hf hs (v := .agg #[.int .i64 xk2.From, .int .i64 xk2.To]) rfl rfl rfl (V.loadEl (off := 0) (Ag.args _ _ _) (hv_l.flat hxk2) rfl rfl rfl Try.isAgg59 Try.sizeOf59 rfl rfl) (fun a hf => ?_)
        refine S.alloc hf hs rfl rfl rfl [.int .i64 0, .int .i64 0] rfl Try.zeroValue59 rfl (fun g3 a w hf hs => ?_)
        refine S.val hf hs (v := .int .i64 (k2 : Int)) rfl rfl rfl (V.pure rfl) (fun a hf => ?_)
        refine S.storeBox 0 hf hs rfl rfl [.int .i64 xk2.From, .int .i64 xk2.To] [.int .i64 xk2.From, .int .i64 xk2.To] rfl rfl rfl rfl rfl Try.sizeOf59 rfl rfl rfl rfl (fun a w hf hs => ?_)
        refine R.nil ?_
        refine X.then_ ?_
        refine wp_seq ?_
        refine R.list ?_
        refine S.val hf hs (v := .agg #[.int .i64 xk2.From, .int .i64 xk2.To]) rfl rfl rfl (V.loadBox 0 rfl rfl rfl Try.isAgg59 Try.sizeOf59 rfl rfl) (fun a hf => ?_)
        refine S.val hf hs (v := .pointer (some ⟨g1, 0, none⟩)) rfl rfl rfl (V.fieldBox rfl rfl Try.runUnderlying113 rfl Try.sizeOf59 rfl rfl) (fun a hf => ?_)
        refine S.val hf hs (v := .agg #[.int .i64 xk1.Through.From, .int .i64 xk1.Through.To]) rfl rfl rfl (V.loadBox 3 rfl rfl rfl Try.isAgg59 Try.sizeOf59 rfl rfl) (fun a hf => ?_)
        refine S.val hf hs (v := .bool (decide (xk2 = xk1.Through))) rfl rfl rfl (V.aggeql rfl rfl rfl (by kernel_rfl) (fun w => eqS59 xk2 xk1.Through w)) (fun a hf => ?_)
        refine R.nil ?_
        refine X.then_ ?_
        refine C.cond hf (b := decide (xk2 = xk1.Through)) rfl (fun hc => ?_) (fun hc => ?_)
        · replace h := h.1 hc
          refine R.list ?_
          refine S.val hf hs (v := .pointer (some ⟨g2, 3, none⟩)) rfl rfl rfl (V.fieldBox rfl rfl Try.runUnderlying57 rfl Try.sizeOf43 rfl rfl) (fun a hf => ?_)
          refine S.val hf hs (v := .slice l4A l4.length l4C) rfl rfl rfl (V.loadBox 2 rfl rfl rfl Try.isAgg43 Try.sizeOf43 rfl rfl) (fun a hf => ?_)
          refine S.val hf hs (v := .int .i64 (k2 : Int)) rfl rfl rfl (V.pure rfl) (fun a hf => ?_)
          refine S.build1 hf hs rfl rfl rfl (α := Int) (k2 : Int) rfl rfl rfl Try.runUnderlying43 Try.sizeOf3 Try.zeroValue3 rfl (by decide) (fun A3 a w hf hs => ?_)
          obtain ⟨hroom, h⟩ := h
          refine S.appendCells 2 hf hs rfl rfl rfl rfl rfl rfl rfl Try.underlying43 info3 rfl hroom ((hs.ownView 0 rfl).some_ (i := 0) (by simp)) (hs.ownView 0 rfl) (fun A4 C2 a w hf hs => ?_)
          replace hs := hs.drop
          refine S.val hf hs (v := .pointer (some ⟨g2, 3, none⟩)) rfl rfl rfl (V.fieldBox rfl rfl Try.runUnderlying57 rfl Try.sizeOf43 rfl rfl) (fun a hf => ?_)
          refine S.storeBox 2 hf hs rfl rfl [.slice A4 (l4 ++ [(k2 : Int)]).length C2] [.int .i64 xk1.Through.From, .int .i64 xk1.Through.To, .bool xk1.core, .slice A4 (l4 ++ [(k2 : Int)]).length C2] rfl rfl rfl rfl rfl Try.sizeOf43 rfl rfl rfl rfl (fun a w hf hs => ?_)
          refine R.nil ?_
          refine X.blk ?_
          refine X.then_ ?_
          refine R.list ?_
          refine S.val hf hs (v := .int .i64 ((k2 + 1 : Nat) : Int)) rfl rfl rfl (V.incr rfl rfl rfl hltk2 hlenk2) (fun a hf => ?_)
          refine S.val hf hs (v := .int .i64 ((k2 + 1 : Nat) : Int)) rfl rfl rfl (V.pure rfl) (fun a hf => ?_)
          refine R.nil ?_
          refine X.then_ ?_
          exact ⟨xk2, llk2, rfl, k2 + 1, (l4 ++ [(k2 : Int)]), A4, C2, range_drop hlk2, range_len hkk2, (by rw [hnext2] at h; exact h), ((((((((((hf.nil.cons (hf.get 41 _ rfl)).cons (hf.get 40 _ rfl)).cons (hf.get 27 _ rfl)).cons (hf.get 26 _ rfl)).cons (hf.get 25 _ rfl)).cons (hf.get 12 _ rfl)).cons (hf.get 11 _ rfl)).cons (hf.get 9 _ rfl)).cons (hf.get 2 _ rfl)).cons (hf.get 42 _ rfl)), hs.drop⟩
        · replace h := h.2 hc
          refine wp_skip ?_
          refine X.blk ?_
          refine X.then_ ?_
          refine R.list ?_
          refine S.val hf hs (v := .int .i64 ((k2 + 1 : Nat) : Int)) rfl rfl rfl (V.incr rfl rfl rfl hltk2 hlenk2) (fun a hf => ?_)
          refine S.val hf hs (v := .int .i64 ((k2 + 1 : Nat) : Int)) rfl rfl rfl (V.pure rfl) (fun a hf => ?_)
          refine R.nil ?_
          refine X.then_ ?_
          exact ⟨xk2, llk2, rfl, k2 + 1, l4, l4A, l4C, range_drop hlk2, range_len hkk2, (by rw [hnext2] at h; exact h), ((((((((((hf.nil.cons (hf.get 41 _ rfl)).cons (hf.get 40 _ rfl)).cons (hf.get 27 _ rfl)).cons (hf.get 26 _ rfl)).cons (hf.get 25 _ rfl)).cons (hf.get 12 _ rfl)).cons (hf.get 11 _ rfl)).cons (hf.get 9 _ rfl)).cons (hf.get 2 _ rfl)).cons (hf.get 42 _ rfl)), hs.drop⟩

set_option linter.unusedVariables false
def M_ref4_Cycles_k3 (next1 : List Int → Prop) (l4 : List Int) (n2 : Int) (again2 : List Int → Int → Prop) (c1 : Bool) : Prop :=
  cnd c1 (idx l4 (w64 (n2 - 1)) fun x1 => again2 (l4.set ((w64 (n2 - 1)).toNat) (w64 (x1 + 1))) (w64 (n2 + 1))) (next1 l4)
def M_ref4_Cycles_L2 (xk1 : R4Sub) (next1 : List Int → Prop) (again2 : List Int → Int → Prop) (l4 : List Int) (n2 : Int) : Prop :=
  cnd (decide (n2 ≤ xk1.Through.To)) (M_ref4_Cycles_k3 next1 l4 n2 again2 (!xk1.core)) (M_ref4_Cycles_k3 next1 l4 n2 again2 false)
def M_ref4_Cycles_L1  (k1 : Nat) (xk1 : R4Sub) (l2 : List Int) (next1 : List Int → Prop) : Prop :=
  lp (fun again (s : List Int × Int) => M_ref4_Cycles_L2 xk1 next1 (fun l4 n2 => again (l4, n2)) s.1 s.2) (l2, xk1.Through.From)
def M_ref4_Cycles (m : (List Material)) (s_ : (List Layer)) (l : (List Through)) (Q : (List Int) → Int → Prop) : Prop :=
  M_ref4_CheckSpans m s_ l fun y1 => cnd (y1 != 0) (Q ([] : List Int) y1) (M_ref4_coppers m s_ fun y2 => must (0 ≤ (y2.length : Int) ∧ (y2.length : Int) * 8 ≤ 281474976710656) (M_ref4_subs m s_ l fun y3 => forIn' (fun k x (s : List Int) next => M_ref4_Cycles_L1 k x s (fun l2 => next l2)) (fun (s : List Int) => (fun (l2 : List Int) => Q l2 0) s) y3 0 (List.replicate y2.length (0 : Int))))
set_option maxHeartbeats 1000000 in
theorem R_ref4_Cycles (m : (List Material)) (s_ : (List Layer)) (l : (List Through)) (w0 : World) (mA : Option Addr) (mC : Nat) (hv_m : View w0 (old w0 none_) mA mC m) (s_A : Option Addr) (s_C : Nat) (hv_s_ : View w0 (old w0 none_) s_A s_C s_) (lA : Option Addr) (lC : Nat) (hv_l : View w0 (old w0 none_) lA lC l) (Q : (List Int) → Int → Prop) (h : M_ref4_Cycles m s_ l Q) :
    Ret Try.prog 48 #[.slice mA m.length mC, .slice s_A s_.length s_C, .slice lA l.length lC] w0 fun v w' => ∃ (r0 : (List Int)) (r0A : Option Addr) (r0C : Nat) (r1 : Int), v = .tuple #[.slice r0A r0.length r0C, .int .i64 r1] ∧ Q r0 r1 ∧ Sat w0 none_ [hown 3 r0A r0C r0] w' := by
  refine fn_enter Try.func48 rfl Try.ntmps48 rfl (fs := [(0, .slice mA m.length mC), (1, .slice s_A s_.length s_C), (2, .slice lA l.length lC)]) rfl (fun a hf => ?_)
  have hs := Sat.start w0 none_
  unfold M_ref4_Cycles at h
  refine wp_seq ?_
  refine R.list ?_
  refine S.val hf hs (v := .slice none 0 0) rfl rfl rfl (V.pure rfl) (fun a hf => ?_)
  refine S.val hf hs (v := .int .i64 0) rfl rfl rfl (V.pure rfl) (fun a hf => ?_)
  refine R.nil ?_
  refine X.then_ ?_
  refine wp_seq ?_
  refine wp_seq ?_
  refine R.list ?_
  refine S.val hf hs (v := .slice mA m.length mC) rfl rfl rfl (V.pure rfl) (fun a hf => ?_)
  refine S.val hf hs (v := .slice s_A s_.length s_C) rfl rfl rfl (V.pure rfl) (fun a hf => ?_)
  refine S.val hf hs (v := .slice lA l.length lC) rfl rfl rfl (V.pure rfl) (fun a hf => ?_)
  refine S.call hf rfl rfl rfl (call_fn (vs := [.slice mA m.length mC, .slice s_A s_.length s_C, .slice lA l.length lC]) rfl rfl rfl Try.call46) (R_ref4_CheckSpans m s_ l _ mA mC ((Ag.args _ _ _).view hv_m hs) s_A s_C ((Ag.args _ _ _).view hv_s_ hs) lA lC ((Ag.args _ _ _).view hv_l hs) _ h) (fun v a w' hf hr => ?_)
  obtain ⟨y1, rfl, h2, hs2⟩ := hr
  replace h := h2; replace hs := hs.call hs2; clear h2 hs2
  refine S.val hf hs (v := .int .i64 y1) rfl rfl rfl (V.pure rfl) (fun a hf => ?_)
  refine R.nil ?_
  refine X.then_ ?_
  refine wp_seq ?_
  refine R.list ?_
  refine S.val hf hs (v := .int .i64 y1) rfl rfl rfl (V.pure rfl) (fun a hf => ?_)
  refine S.val hf hs (v := .bool (y1 != 0)) rfl rfl rfl (V.pure rfl) (fun a hf => ?_)
  refine R.nil ?_
  refine X.then_ ?_
  refine C.cond hf (b := y1 != 0) rfl (fun hc => ?_) (fun hc => ?_)
  · replace h := h.1 hc
    refine wp_seq ?_
    refine R.list ?_
    refine S.val hf hs (v := .int .i64 y1) rfl rfl rfl (V.pure rfl) (fun a hf => ?_)
    refine S.val hf hs (v := .slice none 0 0) rfl rfl rfl (V.pure rfl) (fun a hf => ?_)
    refine S.val hf hs (v := .int .i64 y1) rfl rfl rfl (V.pure rfl) (fun a hf => ?_)
    refine R.nil ?_
    refine X.then_ ?_
    refine wp_ret ?_
    refine X.then_ret ?_
    replace hs := hs.nilOwn (α := Int) 3
    replace hs := hs.take 1
    exact L.ret hf (run_results2 Try.results48 (ResIs.tmp hf rfl) (ResIs.tmp hf rfl)) ⟨([] : List Int), none, 0, y1, rfl, h, hs⟩
  · replace h := h.2 hc
    refine wp_skip ?_
    refine X.then_ ?_
    refine wp_seq ?_
    refine R.list ?_
    refine S.val hf hs (v := .slice mA m.length mC) rfl rfl rfl (V.pure rfl) (fun a hf => ?_)
    refine S.val hf hs (v := .slice s_A s_.length s_C) rfl rfl rfl (V.pure rfl) (fun a hf => ?_)
    refine S.call hf rfl rfl rfl (call_fn (vs := [.slice mA m.length mC, .slice s_A s_.length s_C]) rfl rfl rfl Try.call64) (R_ref4_coppers m s_ _ mA mC ((Ag.args _ _ _).view hv_m hs) s_A s_C ((Ag.args _ _ _).view hv_s_ hs) _ h) (fun v a w' hf hr => ?_)
    obtain ⟨y2, y2A, y2C, rfl, h2, hs2⟩ := hr
    replace h := h2; replace hs := hs.call hs2; clear h2 hs2
    refine S.val hf hs (v := .int .i64 (y2.length : Int)) rfl rfl rfl (V.len rfl rfl Try.runUnderlying43) (fun a hf => ?_)
    obtain ⟨hmk, h⟩ := h
    refine S.make hf hs rfl rfl rfl (α := Int) (0 : Int) (z := (y2.length : Int)) (N := y2.length) rfl rfl rfl Try.underlying43 info3 hmk rfl (by have := hmk.2; omega) (fun A1 a w hf hs => ?_)
    refine S.val hf hs (v := .slice A1 (List.replicate y2.length (0 : Int)).length y2.length) rfl rfl rfl (V.pure rfl) (fun a hf => ?_)
    refine R.nil ?_
    refine X.then_ ?_
    refine wp_seq ?_
    refine wp_seq ?_
    refine R.list ?_
    refine S.val hf hs (v := .slice mA m.length mC) rfl rfl rfl (V.pure rfl) (fun a hf => ?_)
    refine S.val hf hs (v := .slice s_A s_.length s_C) rfl rfl rfl (V.pure rfl) (fun a hf => ?_)
    refine S.val hf hs (v := .slice lA l.length lC) rfl rfl rfl (V.pure rfl) (fun a hf => ?_)
    refine S.call hf rfl rfl rfl (call_fn (vs := [.slice mA m.length mC, .slice s_A s_.length s_C, .slice lA l.length lC]) rfl rfl rfl Try.call85) (R_ref4_subs m s_ l _ mA mC ((Ag.args _ _ _).view hv_m hs) s_A s_C ((Ag.args _ _ _).view hv_s_ hs) lA lC ((Ag.args _ _ _).view hv_l hs) _ h) (fun v a w' hf hr => ?_)
    obtain ⟨y3, y3A, y3C, rfl, h2, hs2⟩ := hr
    replace h := h2; replace hs := hs.call hs2; clear h2 hs2
    refine S.val hf hs (v := .int .i64 (y3.length : Int)) rfl rfl rfl (V.len rfl rfl Try.runUnderlying110) (fun a hf => ?_)
    refine S.val hf hs (v := .int .i64 0) rfl rfl rfl (V.pure rfl) (fun a hf => ?_)
    refine R.nil ?_
    refine X.then_ ?_
    refine wp_block ?_
    have hlenk1 := (hs.ownView 0 rfl).len64
    refine C.range (fun (ll : List R4Sub) a w => ∃ (k1 : Nat) (l2 : List Int) (l2A : Option Addr) (l2C : Nat), y3.drop k1 = ll ∧ k1 + ll.length = y3.length ∧ forIn' (fun k x (s : List Int) next => M_ref4_Cycles_L1 k x s (fun l2 => next l2)) (fun (s : List Int) => (fun (l2 : List Int) => Q l2 0) s) ll k1 l2 ∧ FrOk 58 [(30, .int .i64 (k1 : Int)), (9, .slice l2A l2.length l2C), (28, .slice y3A y3.length y3C), (29, .int .i64 (y3.length : Int))] a ∧ Sat w0 none_ [hown 113 y3A y3C y3, hown 3 l2A l2C l2, hown 3 y2A y2C y2] w) y3 ⟨0, (List.replicate y2.length (0 : Int)), A1, y2.length, rfl, Nat.zero_add _, h, ((((hf.nil.cons (hf.get 29 _ rfl)).cons (hf.get 28 _ rfl)).cons (hf.get 9 _ rfl)).cons (hf.get 30 _ rfl)), hs⟩ ?_
    clear h hf hs
    rintro llk1 a w ⟨k1, l2, l2A, l2C, hlk1, hkk1, h, hf, hs⟩
    cases llk1 with
    | nil =>
      have hc := range_done hkk1
      replace h : (fun (l2 : List Int) => Q l2 0) l2 := h
      refine wp_seq ?_
      refine R.list ?_
      refine S.val hf hs (v := .bool false) rfl rfl rfl (V.cmp false rfl rfl rfl rfl hc) (fun a hf => ?_)
      refine R.nil ?_
      refine X.then_ ?_
      refine wp_seq ?_
      refine C.no hf rfl ?_
      refine wp_exit ?_
      refine X.then_exit ?_
      refine X.then_exit ?_
      refine X.blk_exit ?_
      refine X.then_ ?_
      refine wp_seq ?_
      refine R.list ?_
      refine S.val hf hs (v := .slice l2A l2.length l2C) rfl rfl rfl (V.pure rfl) (fun a hf => ?_)
      refine S.val hf hs (v := .slice l2A l2.length l2C) rfl rfl rfl (V.pure rfl) (fun a hf => ?_)
      refine S.val hf hs (v := .int .i64 0) rfl rfl rfl (V.pure rfl) (fun a hf => ?_)
      refine R.nil ?_
      refine X.then_ ?_
      refine wp_ret ?_
      replace hs := hs.front 1 rfl
      replace hs := hs.take 1
      exact L.ret hf (run_results2 Try.results48 (ResIs.tmp hf rfl) (ResIs.tmp hf rfl)) ⟨l2, l2A, l2C, 0, rfl, h, hs⟩
    | cons xk1 llk1 =>
      have hltk1 := range_lt hkk1; have hc := range_go hkk1; have hxk1 := range_get hlk1
      obtain ⟨next1, hnext1⟩ : ∃ X : List Int → Prop, X = (fun l2 => forIn' (fun k x (s : List Int) next => M_ref4_Cycles_L1 k x s (fun l2 => next l2)) (fun (s : List Int) => (fun (l2 : List Int) => Q l2 0) s) llk1 (k1 + 1) l2) := ⟨_, rfl⟩
      replace h : M_ref4_Cycles_L1 k1 xk1 l2 next1 := by rw [hnext1]; exact h
      unfold M_ref4_Cycles_L1 at h
      refine wp_seq ?_
      refine R.list ?_
      refine S.val hf hs (v := .bool true) rfl rfl rfl (V.cmp true rfl rfl rfl rfl hc) (fun a hf => ?_)
      refine R.nil ?_
      refine X.then_ ?_
      refine wp_seq ?_
      refine C.yes hf rfl ?_
      refine wp_skip ?_
      refine X.then_ ?_
      refine wp_seq ?_
      refine wp_block ?_
      refine wp_seq ?_
      refine R.list ?_
      refine S.val hf hs (v := elemPtr y3A (k1 * 3)) rfl rfl rfl (V.index rfl rfl rfl Try.runUnderlying110 Try.sizeOf113 (hs.ownSome 0 rfl (lt_of_get hxk1)) (Int.natCast_nonneg _) (lt_of_get hxk1) rfl) (fun a hf => ?_)
      refine S.val hf hs (v := .agg #[.int .i64 xk1.Through.From, .int .i64 xk1.Through.To, .bool xk1.core]) rfl rfl rfl (V.loadOwn (off := 0) 0 rfl hxk1 rfl rfl rfl Try.isAgg113 Try.sizeOf113 rfl rfl) (fun a hf => ?_)
      refine S.alloc hf hs rfl rfl rfl [.int .i64 0, .int .i64 0, .bool false] rfl Try.zeroValue113 rfl (fun g1 a w hf hs => ?_)
      refine S.storeBox 0 hf hs rfl rfl [.int .i64 xk1.Through.From, .int .i64 xk1.Through.To, .bool xk1.core] [.int .i64 xk1.Through.From, .int .i64 xk1.Through.To, .bool xk1.core] rfl rfl rfl rfl rfl Try.sizeOf113 rfl rfl rfl rfl (fun a w hf hs => ?_)
      refine R.nil ?_
      refine X.then_ ?_
      refine wp_seq ?_
      refine R.list ?_
      refine S.val hf hs (v := .pointer (some ⟨g1, 0, none⟩)) rfl rfl rfl (V.fieldBox rfl rfl Try.runUnderlying113 rfl Try.sizeOf59 rfl rfl) (fun a hf => ?_)
      refine S.val hf hs (v := .pointer (some ⟨g1, 0, none⟩)) rfl rfl rfl (V.fieldBox rfl rfl Try.runUnderlying59 rfl Try.sizeOf3 rfl rfl) (fun a hf => ?_)
      refine S.val hf hs (v := .int .i64 xk1.Through.From) rfl rfl rfl (V.loadBox 0 rfl rfl rfl Try.isAgg3 Try.sizeOf3 rfl rfl) (fun a hf => ?_)
      refine S.val hf hs (v := .int .i64 xk1.Through.From) rfl rfl rfl (V.pure rfl) (fun a hf => ?_)
      refine R.nil ?_
      refine X.then_ ?_
      refine wp_block ?_
      obtain ⟨kk, h⟩ := h
      refine C.loop (fun kk a w => ∃ (l4 : List Int) (l4A : Option Addr) (l4C : Nat) (n2 : Int), iterF (fun again (s : List Int × Int) => M_ref4_Cycles_L2 xk1 next1 (fun l4 n2 => again (l4, n2)) s.1 s.2) kk (l4, n2) ∧ FrOk 58 [(9, .slice l4A l4.length l4C), (11, .pointer (some ⟨g1, 0, none⟩)), (12, .int .i64 n2), (28, .slice y3A y3.length y3C), (29, .int .i64 (y3.length : Int)), (30, .int .i64 (k1 : Int))] a ∧ Sat w0 none_ [hbox g1 113 [.int .i64 xk1.Through.From, .int .i64 xk1.Through.To, .bool xk1.core], hown 113 y3A y3C y3, hown 3 l4A l4C l4, hown 3 y2A y2C y2] w) kk ⟨l2, l2A, l2C, xk1.Through.From, h, ((((((hf.nil.cons (hf.get 30 _ rfl)).cons (hf.get 29 _ rfl)).cons (hf.get 28 _ rfl)).cons (hf.get 12 _ rfl)).cons (hf.get 11 _ rfl)).cons (hf.get 9 _ rfl)), hs⟩ (fun a w ⟨_, _, _, _, h, _, _⟩ => h) ?_
      clear h hf hs
      rintro kk a w ⟨l4, l4A, l4C, n2, h, hf, hs⟩
      obtain ⟨again2, hagain2⟩ : ∃ X : List Int → Int → Prop, X = (fun l4 n2 => iterF (fun again (s : List Int × Int) => M_ref4_Cycles_L2 xk1 next1 (fun l4 n2 => again (l4, n2)) s.1 s.2) kk (l4, n2)) := ⟨_, rfl⟩
      replace h : M_ref4_Cycles_L2 xk1 next1 again2 l4 n2 := by rw [hagain2]; exact h
      unfold M_ref4_Cycles_L2 at h
      refine wp_seq ?_
      refine wp_seq ?_
      refine C.cut (J := fun a w => ∃ (c1 : Bool), M_ref4_Cycles_k3 next1 l4 n2 again2 c1 ∧ FrOk 58 [(9, .slice l4A l4.length l4C), (11, .pointer (some ⟨g1, 0, none⟩)), (12, .int .i64 n2), (28, .slice y3A y3.length y3C), (29, .int .i64 (y3.length : Int)), (30, .int .i64 (k1 : Int)), (46, .bool c1)] a ∧ Sat w0 none_ [hbox g1 113 [.int .i64 xk1.Through.From, .int .i64 xk1.Through.To, .bool xk1.core], hown 113 y3A y3C y3, hown 3 l4A l4C l4, hown 3 y2A y2C y2] w) ?_ ?_
      · rintro a w ⟨c1, h, hf, hs⟩
        unfold M_ref4_Cycles_k3 at h
        refine C.cond hf (b := c1) rfl (fun hc => ?_) (fun hc => ?_)
        · replace h := h.1 hc
          refine wp_skip ?_
          refine X.then_ ?_
          refine wp_seq ?_
          refine wp_block ?_
          refine R.list ?_
          refine S.val hf hs (v := .slice l4A l4.length l4C) rfl rfl rfl (V.pure rfl) (fun a hf => ?_)
          refine S.val hf hs (v := .int .i64 n2) rfl rfl rfl (V.pure rfl) (fun a hf => ?_)
          refine S.val hf hs (v := .int .i64 (w64 (n2 - 1))) rfl rfl rfl (V.pure rfl) (fun a hf => ?_)
          obtain ⟨h0x1, x1, hx1, h⟩ := h
          refine S.val hf hs (v := elemPtr l4A ((w64 (n2 - 1)).toNat * 1)) rfl rfl rfl (V.index rfl rfl rfl Try.runUnderlying43 Try.sizeOf3 (hs.ownSome 2 rfl (lt_of_get hx1)) h0x1 (lt_of_get hx1) rfl) (fun a hf => ?_)
          refine S.val hf hs (v := .int .i64 x1) rfl rfl rfl (V.loadOwn (off := 0) 2 rfl hx1 rfl rfl rfl Try.isAgg3 Try.sizeOf3 rfl rfl) (fun a hf => ?_)
          refine S.val hf hs (v := .int .i64 (w64 (x1 + 1))) rfl rfl rfl (V.pure rfl) (fun a hf => ?_)
          refine S.val hf hs (v := elemPtr l4A ((w64 (n2 - 1)).toNat * 1)) rfl rfl rfl (V.index rfl rfl rfl Try.runUnderlying43 Try.sizeOf3 (hs.ownSome 2 rfl (lt_of_get hx1)) h0x1 (lt_of_get hx1) rfl) (fun a hf => ?_)
          refine S.storeOwn (off := 0) 2 hf hs rfl rfl (w64 (x1 + 1)) [.int .i64 (w64 (x1 + 1))] rfl hx1 rfl rfl rfl rfl rfl Try.sizeOf3 rfl (by decide) rfl rfl (fun a w hf hs => ?_)
          replace hf := hf.tell 9 (v := .slice l4A (l4.set ((w64 (n2 - 1)).toNat) (w64 (x1 + 1))).length l4C) ((hf.get 9 (.slice l4A l4.length l4C) rfl).trans (congrArg (fun n => Value.slice l4A n l4C) List.length_set.symm))
          replace hf := hf.tell 49 (v := .slice l4A (l4.set ((w64 (n2 - 1)).toNat) (w64 (x1 + 1))).length l4C) ((hf.get 49 (.slice l4A l4.length l4C) rfl).trans (congrArg (fun n => Value.slice l4A n l4C) List.length_set.symm))
          refine R.nil ?_
          refine X.blk ?_
          refine X.then_ ?_
          refine R.list ?_
          refine S.val hf hs (v := .int .i64 n2) rfl rfl rfl (V.pure rfl) (fun a hf => ?_)
          refine S.val hf hs (v := .int .i64 (w64 (n2 + 1))) rfl rfl rfl (V.pure rfl) (fun a hf => ?_)
          refine S.val hf hs (v := .int .i64 (w64 (n2 + 1))) rfl rfl rfl (V.pure rfl) (fun a hf => ?_)
          refine R.nil ?_
          refine X.then_ ?_
          exact ⟨(l4.set ((w64 (n2 - 1)).toNat) (w64 (x1 + 1))), l4A, l4C, (w64 (n2 + 1)), (by rw [hagain2] at h; exact h), ((((((hf.nil.cons (hf.get 30 _ rfl)).cons (hf.get 29 _ rfl)).cons (hf.get 28 _ rfl)).cons (hf.get 12 _ rfl)).cons (hf.get 11 _ rfl)).cons (hf.get 9 _ rfl)), hs⟩
        · replace h := h.2 hc
          refine wp_exit ?_
          refine X.then_exit ?_
          refine X.then_exit ?_
          refine X.blk_exit ?_
          refine X.blk ?_
          refine X.then_ ?_
          refine R.list ?_
          refine S.val hf hs (v := .int .i64 ((k1 + 1 : Nat) : Int)) rfl rfl rfl (V.incr rfl rfl rfl hltk1 hlenk1) (fun a hf => ?_)
          refine S.val hf hs (v := .int .i64 ((k1 + 1 : Nat) : Int)) rfl rfl rfl (V.pure rfl) (fun a hf => ?_)
          refine R.nil ?_
          refine X.then_ ?_
          exact ⟨xk1, llk1, rfl, k1 + 1, l4, l4A, l4C, range_drop hlk1, range_len hkk1, (by rw [hnext1] at h; exact h), ((((hf.nil.cons (hf.get 29 _ rfl)).cons (hf.get 28 _ rfl)).cons (hf.get 9 _ rfl)).cons (hf.get 30 _ rfl)), hs.drop⟩
      · skip
        refine R.list ?_
        refine S.val hf hs (v := .int .i64 n2) rfl rfl rfl (V.pure rfl) (fun a hf => ?_)
        refine S.val hf hs (v := .pointer (some ⟨g1, 0, none⟩)) rfl rfl rfl (V.fieldBox rfl rfl Try.runUnderlying113 rfl Try.sizeOf59 rfl rfl) (fun a hf => ?_)
        refine S.val hf hs (v := .pointer (some ⟨g1, 1, none⟩)) rfl rfl rfl (V.fieldBox rfl rfl Try.runUnderlying59 rfl Try.sizeOf3 rfl rfl) (fun a hf => ?_)
        refine S.val hf hs (v := .int .i64 xk1.Through.To) rfl rfl rfl (V.loadBox 0 rfl rfl rfl Try.isAgg3 Try.sizeOf3 rfl rfl) (fun a hf => ?_)
        refine S.val hf hs (v := .bool (decide (n2 ≤ xk1.Through.To))) rfl rfl rfl (V.pure rfl) (fun a hf => ?_)
        refine S.split hf hs (b := decide (n2 ≤ xk1.Through.To)) rfl rfl rfl (V.pure rfl) (fun hc a hf => ?_) (fun hc a hf => ?_)
        · replace h := h.1 hc
          refine S.val hf hs (v := .pointer (some ⟨g1, 2, none⟩)) rfl rfl rfl (V.fieldBox rfl rfl Try.runUnderlying113 rfl Try.sizeOf4 rfl rfl) (fun a hf => ?_)
          refine S.val hf hs (v := .bool xk1.core) rfl rfl rfl (V.loadBox 0 rfl rfl rfl Try.isAgg4 Try.sizeOf4 rfl rfl) (fun a hf => ?_)
          refine S.val hf hs (v := .bool (!xk1.core)) rfl rfl rfl (V.pure rfl) (fun a hf => ?_)
          refine S.val hf hs (v := .bool (!xk1.core)) rfl rfl rfl (V.pure rfl) (fun a hf => ?_)
          refine R.nil ?_
          refine X.then_ ?_
          exact ⟨(!xk1.core), h, (((((((hf.nil.cons (hf.get 46 _ rfl)).cons (hf.get 30 _ rfl)).cons (hf.get 29 _ rfl)).cons (hf.get 28 _ rfl)).cons (hf.get 12 _ rfl)).cons (hf.get 11 _ rfl)).cons (hf.get 9 _ rfl)), hs⟩
        · replace h := h.2 hc
          refine S.skip hf rfl rfl rfl (fun a hf => ?_)
          refine S.skip hf rfl rfl rfl (fun a hf => ?_)
          refine S.skip hf rfl rfl rfl (fun a hf => ?_)
          refine S.val hf hs (v := .bool false) rfl rfl rfl (V.pure rfl) (fun a hf => ?_)
          refine R.nil ?_
          refine X.then_ ?_
          exact ⟨false, h, (((((((hf.nil.cons (hf.get 46 _ rfl)).cons (hf.get 30 _ rfl)).cons (hf.get 29 _ rfl)).cons (hf.get 28 _ rfl)).cons (hf.get 12 _ rfl)).cons (hf.get 11 _ rfl)).cons (hf.get 9 _ rfl)), hs⟩

set_option linter.unusedVariables false
def M_ref4_SamePresses_k2 (Q : Bool → Prop) (next1 : Prop) (c1 : Bool) : Prop :=
  cnd c1 (Q false) (next1)
def M_ref4_SamePresses_L1 (b : (List Press)) (Q : Bool → Prop) (k1 : Nat) (xk1 : Press)  (next1 : Prop) : Prop :=
  idx b (k1 : Int) fun x1 => cnd (xk1.From != x1.From) (M_ref4_SamePresses_k2 Q next1 true) (cnd (xk1.To != x1.To) (M_ref4_SamePresses_k2 Q next1 true) (cnd (!(xk1.Core == x1.Core)) (M_ref4_SamePresses_k2 Q next1 true) (M_equal_int xk1.Holes x1.Holes fun y1 => M_ref4_SamePresses_k2 Q next1 (!y1))))
def M_ref4_SamePresses (a_ : (List Press)) (b : (List Press)) (Q : Bool → Prop) : Prop :=
  cnd ((a_.length : Int) != (b.length : Int)) (Q false) (forIn' (fun k x (s : Unit) next => M_ref4_SamePresses_L1 b Q k x (next ())) (fun (s : Unit) => Q true) a_ 0 ())
set_option maxHeartbeats 1000000 in
theorem R_ref4_SamePresses (a_ : (List Press)) (b : (List Press)) (w0 : World) (a_A : Option Addr) (a_C : Nat) (hv_a_ : View w0 (old w0 none_) a_A a_C a_) (bA : Option Addr) (bC : Nat) (hv_b : View w0 (old w0 none_) bA bC b) (Q : Bool → Prop) (h : M_ref4_SamePresses a_ b Q) :
    Ret Try.prog 47 #[.slice a_A a_.length a_C, .slice bA b.length bC] w0 fun v w' => ∃ (r0 : Bool), v = .bool r0 ∧ Q r0 ∧ Sat w0 none_ [] w' := by
  refine fn_enter Try.func47 rfl Try.ntmps47 rfl (fs := [(0, .slice a_A a_.length a_C), (1, .slice bA b.length bC)]) rfl (fun a hf => ?_)
  have hs := Sat.start w0 none_
  unfold M_ref4_SamePresses at h
  refine wp_seq ?_
  refine R.list ?_
  refine S.val hf hs (v := .bool false) rfl rfl rfl (V.pure rfl) (fun a hf => ?_)
  refine R.nil ?_
  refine X.then_ ?_
  refine wp_seq ?_
  refine wp_seq ?_
  refine R.list ?_
  refine S.val hf hs (v := .slice a_A a_.length a_C) rfl rfl rfl (V.pure rfl) (fun a hf => ?_)
  refine S.val hf hs (v := .int .i64 (a_.length : Int)) rfl rfl rfl (V.len rfl rfl Try.runUnderlying53) (fun a hf => ?_)
  refine S.val hf hs (v := .slice bA b.length bC) rfl rfl rfl (V.pure rfl) (fun a hf => ?_)
  refine S.val hf hs (v := .int .i64 (b.length : Int)) rfl rfl rfl (V.len rfl rfl Try.runUnderlying53) (fun a hf => ?_)
  refine S.val hf hs (v := .bool ((a_.length : Int) != (b.length : Int))) rfl rfl rfl (V.pure rfl) (fun a hf => ?_)
  refine R.nil ?_
  refine X.then_ ?_
  refine C.cond hf (b := (a_.length : Int) != (b.length : Int)) rfl (fun hc => ?_) (fun hc => ?_)
  · replace h := h.1 hc
    refine wp_seq ?_
    refine R.list ?_
    refine S.val hf hs (v := .bool false) rfl rfl rfl (V.pure rfl) (fun a hf => ?_)
    refine R.nil ?_
    refine X.then_ ?_
    refine wp_ret ?_
    refine X.then_ret ?_
    exact L.ret hf (run_results1 Try.results47 (ResIs.tmp hf rfl)) ⟨false, rfl, h, hs.nil⟩
  · replace h := h.2 hc
    refine wp_skip ?_
    refine X.then_ ?_
    refine wp_seq ?_
    refine wp_seq ?_
    refine R.list ?_
    refine S.val hf hs (v := .slice a_A a_.length a_C) rfl rfl rfl (V.pure rfl) (fun a hf => ?_)
    refine S.val hf hs (v := .int .i64 (a_.length : Int)) rfl rfl rfl (V.len rfl rfl Try.runUnderlying53) (fun a hf => ?_)
    refine S.val hf hs (v := .int .i64 0) rfl rfl rfl (V.pure rfl) (fun a hf => ?_)
    refine R.nil ?_
    refine X.then_ ?_
    refine wp_block ?_
    have hlenk1 := hv_a_.len64
    refine C.range (fun (ll : List Press) a w => ∃ (k1 : Nat) , a_.drop k1 = ll ∧ k1 + ll.length = a_.length ∧ forIn' (fun k x (s : Unit) next => M_ref4_SamePresses_L1 b Q k x (next ())) (fun (s : Unit) => Q true) ll k1 () ∧ FrOk 68 [(13, .int .i64 (k1 : Int)), (0, .slice a_A a_.length a_C), (1, .slice bA b.length bC), (12, .int .i64 (a_.length : Int))] a ∧ Sat w0 none_ [] w) a_ ⟨0, rfl, Nat.zero_add _, h, ((((hf.nil.cons (hf.get 12 _ rfl)).cons (hf.get 1 _ rfl)).cons (hf.get 0 _ rfl)).cons (hf.get 13 _ rfl)), hs⟩ ?_
    clear h hf hs
    rintro llk1 a w ⟨k1, hlk1, hkk1, h, hf, hs⟩
    cases llk1 with
    | nil =>
      have hc := range_done hkk1
      replace h : Q true := h
      refine wp_seq ?_
      refine R.list ?_
      refine S.val hf hs (v := .bool false) rfl rfl rfl (V.cmp false rfl rfl rfl rfl hc) (fun a hf => ?_)
      refine R.nil ?_
      refine X.then_ ?_
      refine wp_seq ?_
      refine C.no hf rfl ?_
      refine wp_exit ?_
      refine X.then_exit ?_
      refine X.then_exit ?_
      refine X.blk_exit ?_
      refine X.then_ ?_
      refine wp_seq ?_
      refine R.list ?_
      refine S.val hf hs (v := .bool true) rfl rfl rfl (V.pure rfl) (fun a hf => ?_)
      refine R.nil ?_
      refine X.then_ ?_
      refine wp_ret ?_
      exact L.ret hf (run_results1 Try.results47 (ResIs.tmp hf rfl)) ⟨true, rfl, h, hs.nil⟩
    | cons xk1 llk1 =>
      have hltk1 := range_lt hkk1; have hc := range_go hkk1; have hxk1 := range_get hlk1
      obtain ⟨next1, hnext1⟩ : ∃ X : Prop, X = (forIn' (fun k x (s : Unit) next => M_ref4_SamePresses_L1 b Q k x (next ())) (fun (s : Unit) => Q true) llk1 (k1 + 1) ()) := ⟨_, rfl⟩
      replace h : M_ref4_SamePresses_L1 b Q k1 xk1  next1 := by rw [hnext1]; exact h
      unfold M_ref4_SamePresses_L1 at h
      refine wp_seq ?_
      refine R.list ?_
      refine S.val hf hs (v := .bool true) rfl rfl rfl (V.cmp true rfl rfl rfl rfl hc) (fun a hf => ?_)
      refine R.nil ?_
      refine X.then_ ?_
      refine wp_seq ?_
      refine C.yes hf rfl ?_
      refine wp_skip ?_
      refine X.then_ ?_
      refine wp_seq ?_
      refine wp_block ?_
      refine wp_seq ?_
      refine R.list ?_
      refine S.val hf hs (v := .int .i64 (k1 : Int)) rfl rfl rfl (V.pure rfl) (fun a hf => ?_)
      refine S.val hf hs (v := .int .i64 (k1 : Int)) rfl rfl rfl (V.pure rfl) (fun a hf => ?_)
      refine R.nil ?_
      refine X.then_ ?_
      refine wp_seq ?_
      refine C.cut (J := fun a w => ∃ (c1 : Bool), M_ref4_SamePresses_k2 Q next1 c1 ∧ FrOk 68 [(0, .slice a_A a_.length a_C), (1, .slice bA b.length bC), (12, .int .i64 (a_.length : Int)), (13, .int .i64 (k1 : Int)), (66, .bool c1)] a ∧ Sat w0 none_ [] w) ?_ ?_
      · rintro a w ⟨c1, h, hf, hs⟩
        unfold M_ref4_SamePresses_k2 at h
        refine C.cond hf (b := c1) rfl (fun hc => ?_) (fun hc => ?_)
        · replace h := h.1 hc
          refine wp_seq ?_
          refine R.list ?_
          refine S.val hf hs (v := .bool false) rfl rfl rfl (V.pure rfl) (fun a hf => ?_)
          refine R.nil ?_
          refine X.then_ ?_
          refine wp_ret ?_
          refine X.blk_ret ?_
          refine X.then_ret ?_
          refine X.then_ret ?_
          refine X.blk_ret ?_
          refine X.then_ret ?_
          exact L.ret hf (run_results1 Try.results47 (ResIs.tmp hf rfl)) ⟨false, rfl, h, hs.nil⟩
        · replace h := h.2 hc
          refine wp_skip ?_
          refine X.blk ?_
          refine X.then_ ?_
          refine R.list ?_
          refine S.val hf hs (v := .int .i64 ((k1 + 1 : Nat) : Int)) rfl rfl rfl (V.incr rfl rfl rfl hltk1 hlenk1) (fun a hf => ?_)
          refine S.val hf hs (v := .int .i64 ((k1 + 1 : Nat) : Int)) rfl rfl rfl (V.pure rfl) (fun a hf => ?_)
          refine R.nil ?_
          refine X.then_ ?_
          exact ⟨xk1, llk1, rfl, k1 + 1, range_drop hlk1, range_len hkk1, (by rw [hnext1] at h; exact h), ((((hf.nil.cons (hf.get 12 _ rfl)).cons (hf.get 1 _ rfl)).cons (hf.get 0 _ rfl)).cons (hf.get 13 _ rfl)), hs⟩
      · skip
        refine H.start (S := Sat w0 none_ []) mo ?_
        replace hs := hs.drew
        refine H.val hf hs (v := .slice a_A a_.length a_C) (i := 0) rfl rfl rfl rfl (by kernel_rfl) (by kernel_rfl) (by kernel_rfl) (V.pure rfl) (fun a hf => ?_)
        refine H.val hf hs (v := .int .i64 (k1 : Int)) (i := 1) rfl rfl rfl rfl (by kernel_rfl) (by kernel_rfl) (by kernel_rfl) (V.pure rfl) (fun a hf => ?_)
        obtain ⟨cs1, he1, hr1⟩ := hv_a_.at_ _ _ hxk1
        obtain ⟨u1A, u1C, rfl, hvu1⟩ := hr1
        refine H.val hf hs (v := elemPtr a_A (k1 * 4)) (i := 2) rfl rfl rfl rfl (by kernel_rfl) (by kernel_rfl) (by kernel_rfl) (V.index rfl rfl rfl Try.runUnderlying53 Try.sizeOf57 (hv_a_.some_ (lt_of_get hxk1)) (Int.natCast_nonneg _) (lt_of_get hxk1) rfl) (fun a hf => ?_)
        refine H.val hf hs (v := elemPtr a_A (k1 * 4)) (i := 3) rfl rfl rfl rfl (by kernel_rfl) (by kernel_rfl) (by kernel_rfl) (V.fieldEl rfl rfl (hv_a_.some_ (lt_of_get hxk1)) Try.runUnderlying57 rfl Try.sizeOf3 rfl rfl) (fun a hf => ?_)
        refine H.val hf hs (v := .int .i64 xk1.From) (i := 4) rfl rfl rfl rfl (by kernel_rfl) (by kernel_rfl) (by kernel_rfl) (V.loadEl (off := 0) (Ag.args _ _ _) he1 rfl rfl rfl Try.isAgg3 Try.sizeOf3 rfl rfl) (fun a hf => ?_)
        refine H.val hf hs (v := .slice bA b.length bC) (i := 5) rfl rfl rfl rfl (by kernel_rfl) (by kernel_rfl) (by kernel_rfl) (V.pure rfl) (fun a hf => ?_)
        refine H.val hf hs (v := .int .i64 (k1 : Int)) (i := 6) rfl rfl rfl rfl (by kernel_rfl) (by kernel_rfl) (by kernel_rfl) (V.pure rfl) (fun a hf => ?_)
        obtain ⟨h0x1, x1, hx1, h⟩ := h
        obtain ⟨cs2, he2, hr2⟩ := hv_b.at_ _ _ hx1
        obtain ⟨u2A, u2C, rfl, hvu2⟩ := hr2
        refine H.val hf hs (v := elemPtr bA (k1 * 4)) (i := 7) rfl rfl rfl rfl (by kernel_rfl) (by kernel_rfl) (by kernel_rfl) (V.index rfl rfl rfl Try.runUnderlying53 Try.sizeOf57 (hv_b.some_ (lt_of_get hx1)) (Int.natCast_nonneg _) (lt_of_get hx1) rfl) (fun a hf => ?_)
        refine H.val hf hs (v := elemPtr bA (k1 * 4)) (i := 8) rfl rfl rfl rfl (by kernel_rfl) (by kernel_rfl) (by kernel_rfl) (V.fieldEl rfl rfl (hv_b.some_ (lt_of_get hx1)) Try.runUnderlying57 rfl Try.sizeOf3 rfl rfl) (fun a hf => ?_)
        refine H.val hf hs (v := .int .i64 x1.From) (i := 9) rfl rfl rfl rfl (by kernel_rfl) (by kernel_rfl) (by kernel_rfl) (V.loadEl (off := 0) (Ag.args _ _ _) he2 rfl rfl rfl Try.isAgg3 Try.sizeOf3 rfl rfl) (fun a hf => ?_)
        refine H.val hf hs (v := .bool (xk1.From != x1.From)) (i := 10) rfl rfl rfl rfl (by kernel_rfl) (by kernel_rfl) (by kernel_rfl) (V.pure rfl) (fun a hf => ?_)
        refine H.split hf hs (b := xk1.From != x1.From) (i := 11) rfl rfl rfl rfl (by kernel_rfl) (by kernel_rfl) (by kernel_rfl) (V.pure rfl) (fun hc a hf => ?_) (fun hc a hf => ?_)
        · replace h := h.1 hc
          refine H.skip hf hs (i := 12) rfl rfl rfl rfl (by kernel_rfl) (by kernel_rfl) (by kernel_rfl) (fun a hf => ?_)
          refine H.skip hf hs (i := 13) rfl rfl rfl rfl (by kernel_rfl) (by kernel_rfl) (by kernel_rfl) (fun a hf => ?_)
          refine H.skip hf hs (i := 14) rfl rfl rfl rfl (by kernel_rfl) (by kernel_rfl) (by kernel_rfl) (fun a hf => ?_)
          refine H.skip hf hs (i := 15) rfl rfl rfl rfl (by kernel_rfl) (by kernel_rfl) (by kernel_rfl) (fun a hf => ?_)
          refine H.skip hf hs (i := 16) rfl rfl rfl rfl (by kernel_rfl) (by kernel_rfl) (by kernel_rfl) (fun a hf => ?_)
          refine H.skip hf hs (i := 17) rfl rfl rfl rfl (by kernel_rfl) (by kernel_rfl) (by kernel_rfl) (fun a hf => ?_)
          refine H.skip hf hs (i := 18) rfl rfl rfl rfl (by kernel_rfl) (by kernel_rfl) (by kernel_rfl) (fun a hf => ?_)
          refine H.skip hf hs (i := 19) rfl rfl rfl rfl (by kernel_rfl) (by kernel_rfl) (by kernel_rfl) (fun a hf => ?_)
          refine H.skip hf hs (i := 20) rfl rfl rfl rfl (by kernel_rfl) (by kernel_rfl) (by kernel_rfl) (fun a hf => ?_)
          refine H.skip hf hs (i := 21) rfl rfl rfl rfl (by kernel_rfl) (by kernel_rfl) (by kernel_rfl) (fun a hf => ?_)
          refine H.skip hf hs (i := 22) rfl rfl rfl rfl (by kernel_rfl) (by kernel_rfl) (by kernel_rfl) (fun a hf => ?_)
          refine H.val hf hs (v := .bool true) (i := 23) rfl rfl rfl rfl (by kernel_rfl) (by kernel_rfl) (by kernel_rfl) (V.pure rfl) (fun a hf => ?_)
          refine H.val hf hs (v := .bool true) (i := 24) rfl rfl rfl rfl (by kernel_rfl) (by kernel_rfl) (by kernel_rfl) (V.pure rfl) (fun a hf => ?_)
          refine H.skip hf hs (i := 25) rfl rfl rfl rfl (by kernel_rfl) (by kernel_rfl) (by kernel_rfl) (fun a hf => ?_)
          refine H.skip hf hs (i := 26) rfl rfl rfl rfl (by kernel_rfl) (by kernel_rfl) (by kernel_rfl) (fun a hf => ?_)
          refine H.skip hf hs (i := 27) rfl rfl rfl rfl (by kernel_rfl) (by kernel_rfl) (by kernel_rfl) (fun a hf => ?_)
          refine H.skip hf hs (i := 28) rfl rfl rfl rfl (by kernel_rfl) (by kernel_rfl) (by kernel_rfl) (fun a hf => ?_)
          refine H.skip hf hs (i := 29) rfl rfl rfl rfl (by kernel_rfl) (by kernel_rfl) (by kernel_rfl) (fun a hf => ?_)
          refine H.skip hf hs (i := 30) rfl rfl rfl rfl (by kernel_rfl) (by kernel_rfl) (by kernel_rfl) (fun a hf => ?_)
          refine H.skip hf hs (i := 31) rfl rfl rfl rfl (by kernel_rfl) (by kernel_rfl) (by kernel_rfl) (fun a hf => ?_)
          refine H.skip hf hs (i := 32) rfl rfl rfl rfl (by kernel_rfl) (by kernel_rfl) (by kernel_rfl) (fun a hf => ?_)
          refine H.skip hf hs (i := 33) rfl rfl rfl rfl (by kernel_rfl) (by kernel_rfl) (by kernel_rfl) (fun a hf => ?_)
          refine H.skip hf hs (i := 34) rfl rfl rfl rfl (by kernel_rfl) (by kernel_rfl) (by kernel_rfl) (fun a hf => ?_)
          refine H.skip hf hs (i := 35) rfl rfl rfl rfl (by kernel_rfl) (by kernel_rfl) (by kernel_rfl) (fun a hf => ?_)
          refine H.val hf hs (v := .bool true) (i := 36) rfl rfl rfl rfl (by kernel_rfl) (by kernel_rfl) (by kernel_rfl) (V.pure rfl) (fun a hf => ?_)
          refine H.val hf hs (v := .bool true) (i := 37) rfl rfl rfl rfl (by kernel_rfl) (by kernel_rfl) (by kernel_rfl) (V.pure rfl) (fun a hf => ?_)
          refine H.skip hf hs (i := 38) rfl rfl rfl rfl (by kernel_rfl) (by kernel_rfl) (by kernel_rfl) (fun a hf => ?_)
          refine H.skip hf hs (i := 39) rfl rfl rfl rfl (by kernel_rfl) (by kernel_rfl) (by kernel_rfl) (fun a hf => ?_)
          refine H.skip hf hs (i := 40) rfl rfl rfl rfl (by kernel_rfl) (by kernel_rfl) (by kernel_rfl) (fun a hf => ?_)
          refine H.skip hf hs (i := 41) rfl rfl rfl rfl (by kernel_rfl) (by kernel_rfl) (by kernel_rfl) (fun a hf => ?_)
          refine H.skip hf hs (i := 42) rfl rfl rfl rfl (by kernel_rfl) (by kernel_rfl) (by kernel_rfl) (fun a hf => ?_)
          refine H.skip hf hs (i := 43) rfl rfl rfl rfl (by kernel_rfl) (by kernel_rfl) (by kernel_rfl) (fun a hf => ?_)
          refine H.skip hf hs (i := 44) rfl rfl rfl rfl (by kernel_rfl) (by kernel_rfl) (by kernel_rfl) (fun a hf => ?_)
          refine H.skip hf hs (i := 45) rfl rfl rfl rfl (by kernel_rfl) (by kernel_rfl) (by kernel_rfl) (fun a hf => ?_)
          refine H.skip hf hs (i := 46) rfl rfl rfl rfl (by kernel_rfl) (by kernel_rfl) (by kernel_rfl) (fun a hf => ?_)
          refine H.skip hf hs (i := 47) rfl rfl rfl rfl (by kernel_rfl) (by kernel_rfl) (by kernel_rfl) (fun a hf => ?_)
          refine H.one (i := 48) rfl (by kernel_rfl) ?_
          refine S.skip hf rfl rfl rfl (fun a hf => ?_)
          refine R.nil ?_
          refine X.then_ ?_
          refine ⟨hs, ?_⟩
          refine H.skip hf hs (i := 49) rfl rfl rfl rfl (by kernel_rfl) (by kernel_rfl) (by kernel_rfl) (fun a hf => ?_)
          refine H.val hf hs (v := .bool true) (i := 50) rfl rfl rfl rfl (by kernel_rfl) (by kernel_rfl) (by kernel_rfl) (V.pure rfl) (fun a hf => ?_)
          refine H.done (by kernel_rfl) ?_
          refine X.then_ ?_
          exact ⟨true, h, (((((hf.nil.cons (hf.get 66 _ rfl)).cons (hf.get 13 _ rfl)).cons (hf.get 12 _ rfl)).cons (hf.get 1 _ rfl)).cons (hf.get 0 _ rfl)), hs⟩
        · replace h := h.2 hc
          refine H.val hf hs (v := .slice a_A a_.length a_C) (i := 12) rfl rfl rfl rfl (by kernel_rfl) (by kernel_rfl) (by kernel_rfl) (V.pure rfl) (fun a hf => ?_)
          refine H.val hf hs (v := .int .i64 (k1 : Int)) (i := 13) rfl rfl rfl rfl (by kernel_rfl) (by kernel_rfl) (by kernel_rfl) (V.pure rfl) (fun a hf => ?_)
          refine H.val hf hs (v := elemPtr a_A (k1 * 4)) (i := 14) rfl rfl rfl rfl (by kernel_rfl) (by kernel_rfl) (by kernel_rfl) (V.index rfl rfl rfl Try.runUnderlying53 Try.sizeOf57 (hv_a_.some_ (lt_of_get hxk1)) (Int.natCast_nonneg _) (lt_of_get hxk1) rfl) (fun a hf => ?_)
          refine H.val hf hs (v := elemPtr a_A (k1 * 4 + 1)) (i := 15) rfl rfl rfl rfl (by kernel_rfl) (by kernel_rfl) (by kernel_rfl) (V.fieldEl rfl rfl (hv_a_.some_ (lt_of_get hxk1)) Try.runUnderlying57 rfl Try.sizeOf3 rfl rfl) (fun a hf => ?_)
          refine H.val hf hs (v := .int .i64 xk1.To) (i := 16) rfl rfl rfl rfl (by kernel_rfl) (by kernel_rfl) (by kernel_rfl) (V.loadEl (off := 1) (Ag.args _ _ _) he1 rfl rfl rfl Try.isAgg3 Try.sizeOf3 rfl rfl) (fun a hf => ?_)
          refine H.val hf hs (v := .slice bA b.length bC) (i := 17) rfl rfl rfl rfl (by kernel_rfl) (by kernel_rfl) (by kernel_rfl) (V.pure rfl) (fun a hf => ?_)
          refine H.val hf hs (v := .int .i64 (k1 : Int)) (i := 18) rfl rfl rfl rfl (by kernel_rfl) (by kernel_rfl) (by kernel_rfl) (V.pure rfl) (fun a hf => ?_)
          refine H.val hf hs (v := elemPtr bA (k1 * 4)) (i := 19) rfl rfl rfl rfl (by kernel_rfl) (by kernel_rfl) (by kernel_rfl) (V.index rfl rfl rfl Try.runUnderlying53 Try.sizeOf57 (hv_b.some_ (lt_of_get hx1)) (Int.natCast_nonneg _) (lt_of_get hx1) rfl) (fun a hf => ?_)
          refine H.val hf hs (v := elemPtr bA (k1 * 4 + 1)) (i := 20) rfl rfl rfl rfl (by kernel_rfl) (by kernel_rfl) (by kernel_rfl) (V.fieldEl rfl rfl (hv_b.some_ (lt_of_get hx1)) Try.runUnderlying57 rfl Try.sizeOf3 rfl rfl) (fun a hf => ?_)
          refine H.val hf hs (v := .int .i64 x1.To) (i := 21) rfl rfl rfl rfl (by kernel_rfl) (by kernel_rfl) (by kernel_rfl) (V.loadEl (off := 1) (Ag.args _ _ _) he2 rfl rfl rfl Try.isAgg3 Try.sizeOf3 rfl rfl) (fun a hf => ?_)
          refine H.val hf hs (v := .bool (xk1.To != x1.To)) (i := 22) rfl rfl rfl rfl (by kernel_rfl) (by kernel_rfl) (by kernel_rfl) (V.pure rfl) (fun a hf => ?_)
          refine H.val hf hs (v := .bool (xk1.To != x1.To)) (i := 23) rfl rfl rfl rfl (by kernel_rfl) (by kernel_rfl) (by kernel_rfl) (V.pure rfl) (fun a hf => ?_)
          refine H.split hf hs (b := xk1.To != x1.To) (i := 24) rfl rfl rfl rfl (by kernel_rfl) (by kernel_rfl) (by kernel_rfl) (V.pure rfl) (fun hc a hf => ?_) (fun hc a hf => ?_)
          · replace h := h.1 hc
            refine H.skip hf hs (i := 25) rfl rfl rfl rfl (by kernel_rfl) (by kernel_rfl) (by kernel_rfl) (fun a hf => ?_)
            refine H.skip hf hs (i := 26) rfl rfl rfl rfl (by kernel_rfl) (by kernel_rfl) (by kernel_rfl) (fun a hf => ?_)
            refine H.skip hf hs (i := 27) rfl rfl rfl rfl (by kernel_rfl) (by kernel_rfl) (by kernel_rfl) (fun a hf => ?_)
            refine H.skip hf hs (i := 28) rfl rfl rfl rfl (by kernel_rfl) (by kernel_rfl) (by kernel_rfl) (fun a hf => ?_)
            refine H.skip hf hs (i := 29) rfl rfl rfl rfl (by kernel_rfl) (by kernel_rfl) (by kernel_rfl) (fun a hf => ?_)
            refine H.skip hf hs (i := 30) rfl rfl rfl rfl (by kernel_rfl) (by kernel_rfl) (by kernel_rfl) (fun a hf => ?_)
            refine H.skip hf hs (i := 31) rfl rfl rfl rfl (by kernel_rfl) (by kernel_rfl) (by kernel_rfl) (fun a hf => ?_)
            refine H.skip hf hs (i := 32) rfl rfl rfl rfl (by kernel_rfl) (by kernel_rfl) (by kernel_rfl) (fun a hf => ?_)
            refine H.skip hf hs (i := 33) rfl rfl rfl rfl (by kernel_rfl) (by kernel_rfl) (by kernel_rfl) (fun a hf => ?_)
            refine H.skip hf hs (i := 34) rfl rfl rfl rfl (by kernel_rfl) (by kernel_rfl) (by kernel_rfl) (fun a hf => ?_)
            refine H.skip hf hs (i := 35) rfl rfl rfl rfl (by kernel_rfl) (by kernel_rfl) (by kernel_rfl) (fun a hf => ?_)
            refine H.val hf hs (v := .bool true) (i := 36) rfl rfl rfl rfl (by kernel_rfl) (by kernel_rfl) (by kernel_rfl) (V.pure rfl) (fun a hf => ?_)
            refine H.val hf hs (v := .bool true) (i := 37) rfl rfl rfl rfl (by kernel_rfl) (by kernel_rfl) (by kernel_rfl) (V.pure rfl) (fun a hf => ?_)
            refine H.skip hf hs (i := 38) rfl rfl rfl rfl (by kernel_rfl) (by kernel_rfl) (by kernel_rfl) (fun a hf => ?_)
            refine H.skip hf hs (i := 39) rfl rfl rfl rfl (by kernel_rfl) (by kernel_rfl) (by kernel_rfl) (fun a hf => ?_)
            refine H.skip hf hs (i := 40) rfl rfl rfl rfl (by kernel_rfl) (by kernel_rfl) (by kernel_rfl) (fun a hf => ?_)
            refine H.skip hf hs (i := 41) rfl rfl rfl rfl (by kernel_rfl) (by kernel_rfl) (by kernel_rfl) (fun a hf => ?_)
            refine H.skip hf hs (i := 42) rfl rfl rfl rfl (by kernel_rfl) (by kernel_rfl) (by kernel_rfl) (fun a hf => ?_)
            refine H.skip hf hs (i := 43) rfl rfl rfl rfl (by kernel_rfl) (by kernel_rfl) (by kernel_rfl) (fun a hf => ?_)
            refine H.skip hf hs (i := 44) rfl rfl rfl rfl (by kernel_rfl) (by kernel_rfl) (by kernel_rfl) (fun a hf => ?_)
            refine H.skip hf hs (i := 45) rfl rfl rfl rfl (by kernel_rfl) (by kernel_rfl) (by kernel_rfl) (fun a hf => ?_)
            refine H.skip hf hs (i := 46) rfl rfl rfl rfl (by kernel_rfl) (by kernel_rfl) (by kernel_rfl) (fun a hf => ?_)
            refine H.skip hf hs (i := 47) rfl rfl rfl rfl (by kernel_rfl) (by kernel_rfl) (by kernel_rfl) (fun a hf => ?_)
            refine H.one (i := 48) rfl (by kernel_rfl) ?_
            refine S.skip hf rfl rfl rfl (fun a hf => ?_)
            refine R.nil ?_
            refine X.then_ ?_
            refine ⟨hs, ?_⟩
            refine H.skip hf hs (i := 49) rfl rfl rfl rfl (by kernel_rfl) (by kernel_rfl) (by kernel_rfl) (fun a hf => ?_)
            refine H.val hf hs (v := .bool true) (i := 50) rfl rfl rfl rfl (by kernel_rfl) (by kernel_rfl) (by kernel_rfl) (V.pure rfl) (fun a hf => ?_)
            refine H.done (by kernel_rfl) ?_
            refine X.then_ ?_
            exact ⟨true, h, (((((hf.nil.cons (hf.get 66 _ rfl)).cons (hf.get 13 _ rfl)).cons (hf.get 12 _ rfl)).cons (hf.get 1 _ rfl)).cons (hf.get 0 _ rfl)), hs⟩
          · replace h := h.2 hc
            refine H.val hf hs (v := .slice a_A a_.length a_C) (i := 25) rfl rfl rfl rfl (by kernel_rfl) (by kernel_rfl) (by kernel_rfl) (V.pure rfl) (fun a hf => ?_)
            refine H.val hf hs (v := .int .i64 (k1 : Int)) (i := 26) rfl rfl rfl rfl (by kernel_rfl) (by kernel_rfl) (by kernel_rfl) (V.pure rfl) (fun a hf => ?_)
            refine H.val hf hs (v := elemPtr a_A (k1 * 4)) (i := 27) rfl rfl rfl rfl (by kernel_rfl) (by kernel_rfl) (by kernel_rfl) (V.index rfl rfl rfl Try.runUnderlying53 Try.sizeOf57 (hv_a_.some_ (lt_of_get hxk1)) (Int.natCast_nonneg _) (lt_of_get hxk1) rfl) (fun a hf => ?_)
            refine H.val hf hs (v := elemPtr a_A (k1 * 4 + 2)) (i := 28) rfl rfl rfl rfl (by kernel_rfl) (by kernel_rfl) (by kernel_rfl) (V.fieldEl rfl rfl (hv_a_.some_ (lt_of_get hxk1)) Try.runUnderlying57 rfl Try.sizeOf4 rfl rfl) (fun a hf => ?_)
            refine H.val hf hs (v := .bool xk1.Core) (i := 29) rfl rfl rfl rfl (by kernel_rfl) (by kernel_rfl) (by kernel_rfl) (V.loadEl (off := 2) (Ag.args _ _ _) he1 rfl rfl rfl Try.isAgg4 Try.sizeOf4 rfl rfl) (fun a hf => ?_)
            refine H.val hf hs (v := .slice bA b.length bC) (i := 30) rfl rfl rfl rfl (by kernel_rfl) (by kernel_rfl) (by kernel_rfl) (V.pure rfl) (fun a hf => ?_)
            refine H.val hf hs (v := .int .i64 (k1 : Int)) (i := 31) rfl rfl rfl rfl (by kernel_rfl) (by kernel_rfl) (by kernel_rfl) (V.pure rfl) (fun a hf => ?_)
            refine H.val hf hs (v := elemPtr bA (k1 * 4)) (i := 32) rfl rfl rfl rfl (by kernel_rfl) (by kernel_rfl) (by kernel_rfl) (V.index rfl rfl rfl Try.runUnderlying53 Try.sizeOf57 (hv_b.some_ (lt_of_get hx1)) (Int.natCast_nonneg _) (lt_of_get hx1) rfl) (fun a hf => ?_)
            refine H.val hf hs (v := elemPtr bA (k1 * 4 + 2)) (i := 33) rfl rfl rfl rfl (by kernel_rfl) (by kernel_rfl) (by kernel_rfl) (V.fieldEl rfl rfl (hv_b.some_ (lt_of_get hx1)) Try.runUnderlying57 rfl Try.sizeOf4 rfl rfl) (fun a hf => ?_)
            refine H.val hf hs (v := .bool x1.Core) (i := 34) rfl rfl rfl rfl (by kernel_rfl) (by kernel_rfl) (by kernel_rfl) (V.loadEl (off := 2) (Ag.args _ _ _) he2 rfl rfl rfl Try.isAgg4 Try.sizeOf4 rfl rfl) (fun a hf => ?_)
            refine H.val hf hs (v := .bool (!(xk1.Core == x1.Core))) (i := 35) rfl rfl rfl rfl (by kernel_rfl) (by kernel_rfl) (by kernel_rfl) (V.boolEq rfl rfl rfl Try.underlying4 rfl) (fun a hf => ?_)
            refine H.val hf hs (v := .bool (!(xk1.Core == x1.Core))) (i := 36) rfl rfl rfl rfl (by kernel_rfl) (by kernel_rfl) (by kernel_rfl) (V.pure rfl) (fun a hf => ?_)
            refine H.split hf hs (b := !(xk1.Core == x1.Core)) (i := 37) rfl rfl rfl rfl (by kernel_rfl) (by kernel_rfl) (by kernel_rfl) (V.pure rfl) (fun hc a hf => ?_) (fun hc a hf => ?_)
            · replace h := h.1 hc
              refine H.skip hf hs (i := 38) rfl rfl rfl rfl (by kernel_rfl) (by kernel_rfl) (by kernel_rfl) (fun a hf => ?_)
              refine H.skip hf hs (i := 39) rfl rfl rfl rfl (by kernel_rfl) (by kernel_rfl) (by kernel_rfl) (fun a hf => ?_)
              refine H.skip hf hs (i := 40) rfl rfl rfl rfl (by kernel_rfl) (by kernel_rfl) (by kernel_rfl) (fun a hf => ?_)
              refine H.skip hf hs (i := 41) rfl rfl rfl rfl (by kernel_rfl) (by kernel_rfl) (by kernel_rfl) (fun a hf => ?_)
              refine H.skip hf hs (i := 42) rfl rfl rfl rfl (by kernel_rfl) (by kernel_rfl) (by kernel_rfl) (fun a hf => ?_)
              refine H.skip hf hs (i := 43) rfl rfl rfl rfl (by kernel_rfl) (by kernel_rfl) (by kernel_rfl) (fun a hf => ?_)
              refine H.skip hf hs (i := 44) rfl rfl rfl rfl (by kernel_rfl) (by kernel_rfl) (by kernel_rfl) (fun a hf => ?_)
              refine H.skip hf hs (i := 45) rfl rfl rfl rfl (by kernel_rfl) (by kernel_rfl) (by kernel_rfl) (fun a hf => ?_)
              refine H.skip hf hs (i := 46) rfl rfl rfl rfl (by kernel_rfl) (by kernel_rfl) (by kernel_rfl) (fun a hf => ?_)
              refine H.skip hf hs (i := 47) rfl rfl rfl rfl (by kernel_rfl) (by kernel_rfl) (by kernel_rfl) (fun a hf => ?_)
              refine H.one (i := 48) rfl (by kernel_rfl) ?_
              refine S.skip hf rfl rfl rfl (fun a hf => ?_)
              refine R.nil ?_
              refine X.then_ ?_
              refine ⟨hs, ?_⟩
              refine H.skip hf hs (i := 49) rfl rfl rfl rfl (by kernel_rfl) (by kernel_rfl) (by kernel_rfl) (fun a hf => ?_)
              refine H.val hf hs (v := .bool true) (i := 50) rfl rfl rfl rfl (by kernel_rfl) (by kernel_rfl) (by kernel_rfl) (V.pure rfl) (fun a hf => ?_)
              refine H.done (by kernel_rfl) ?_
              refine X.then_ ?_
              exact ⟨true, h, (((((hf.nil.cons (hf.get 66 _ rfl)).cons (hf.get 13 _ rfl)).cons (hf.get 12 _ rfl)).cons (hf.get 1 _ rfl)).cons (hf.get 0 _ rfl)), hs⟩
            · replace h := h.2 hc
              refine H.val hf hs (v := .slice a_A a_.length a_C) (i := 38) rfl rfl rfl rfl (by kernel_rfl) (by kernel_rfl) (by kernel_rfl) (V.pure rfl) (fun a hf => ?_)
              refine H.val hf hs (v := .int .i64 (k1 : Int)) (i := 39) rfl rfl rfl rfl (by kernel_rfl) (by kernel_rfl) (by kernel_rfl) (V.pure rfl) (fun a hf => ?_)
              refine H.val hf hs (v := elemPtr a_A (k1 * 4)) (i := 40) rfl rfl rfl rfl (by kernel_rfl) (by kernel_rfl) (by kernel_rfl) (V.index rfl rfl rfl Try.runUnderlying53 Try.sizeOf57 (hv_a_.some_ (lt_of_get hxk1)) (Int.natCast_nonneg _) (lt_of_get hxk1) rfl) (fun a hf => ?_)
              refine H.val hf hs (v := elemPtr a_A (k1 * 4 + 3)) (i := 41) rfl rfl rfl rfl (by kernel_rfl) (by kernel_rfl) (by kernel_rfl) (V.fieldEl rfl rfl (hv_a_.some_ (lt_of_get hxk1)) Try.runUnderlying57 rfl Try.sizeOf43 rfl rfl) (fun a hf => ?_)
              refine H.val hf hs (v := .slice u1A xk1.Holes.length u1C) (i := 42) rfl rfl rfl rfl (by kernel_rfl) (by kernel_rfl) (by kernel_rfl) (V.loadEl (off := 3) (Ag.args _ _ _) he1 rfl rfl rfl Try.isAgg43 Try.sizeOf43 rfl rfl) (fun a hf => ?_)
              refine H.val hf hs (v := .slice bA b.length bC) (i := 43) rfl rfl rfl rfl (by kernel_rfl) (by kernel_rfl) (by kernel_rfl) (V.pure rfl) (fun a hf => ?_)
              refine H.val hf hs (v := .int .i64 (k1 : Int)) (i := 44) rfl rfl rfl rfl (by kernel_rfl) (by kernel_rfl) (by kernel_rfl) (V.pure rfl) (fun a hf => ?_)
              refine H.val hf hs (v := elemPtr bA (k1 * 4)) (i := 45) rfl rfl rfl rfl (by kernel_rfl) (by kernel_rfl) (by kernel_rfl) (V.index rfl rfl rfl Try.runUnderlying53 Try.sizeOf57 (hv_b.some_ (lt_of_get hx1)) (Int.natCast_nonneg _) (lt_of_get hx1) rfl) (fun a hf => ?_)
              refine H.val hf hs (v := elemPtr bA (k1 * 4 + 3)) (i := 46) rfl rfl rfl rfl (by kernel_rfl) (by kernel_rfl) (by kernel_rfl) (V.fieldEl rfl rfl (hv_b.some_ (lt_of_get hx1)) Try.runUnderlying57 rfl Try.sizeOf43 rfl rfl) (fun a hf => ?_)
              refine H.val hf hs (v := .slice u2A x1.Holes.length u2C) (i := 47) rfl rfl rfl rfl (by kernel_rfl) (by kernel_rfl) (by kernel_rfl) (V.loadEl (off := 3) (Ag.args _ _ _) he2 rfl rfl rfl Try.isAgg43 Try.sizeOf43 rfl rfl) (fun a hf => ?_)
              refine H.one (i := 48) rfl (by kernel_rfl) ?_
              refine S.call hf rfl rfl rfl (call_fn (vs := [.slice u1A xk1.Holes.length u1C, .slice u2A x1.Holes.length u2C]) rfl rfl rfl Try.call37) (R_equal_int xk1.Holes x1.Holes _ u1A u1C ((Ag.args _ _ _).view hvu1 hs) u2A u2C ((Ag.args _ _ _).view hvu2 hs) _ h) (fun v a w' hf hr => ?_)
              obtain ⟨y1, rfl, h2, hs2⟩ := hr
              replace h := h2; replace hs := hs.call hs2; clear h2 hs2
              refine R.nil ?_
              refine X.then_ ?_
              refine ⟨hs, ?_⟩
              refine H.val hf hs (v := .bool (!y1)) (i := 49) rfl rfl rfl rfl (by kernel_rfl) (by kernel_rfl) (by kernel_rfl) (V.pure rfl) (fun a hf => ?_)
              refine H.val hf hs (v := .bool (!y1)) (i := 50) rfl rfl rfl rfl (by kernel_rfl) (by kernel_rfl) (by kernel_rfl) (V.pure rfl) (fun a hf => ?_)
              refine H.done (by kernel_rfl) ?_
              refine X.then_ ?_
              exact ⟨(!y1), h, (((((hf.nil.cons (hf.get 66 _ rfl)).cons (hf.get 13 _ rfl)).cons (hf.get 12 _ rfl)).cons (hf.get 1 _ rfl)).cons (hf.get 0 _ rfl)), hs⟩

set_option linter.unusedVariables false
def M_law_Presses_k1 (m : (List Material)) (s_ : (List Layer)) (l : (List Through)) (Q : Bool → Prop) (c1 : Bool) : Prop :=
  cnd c1 (Q false) (M_stack_Cycles m s_ l fun y5 y6 => M_ref4_Cycles m s_ l fun y7 y8 => cnd (y6 == y8) (M_equal_int y5 y7 fun y9 => cnd y9 (M_awake  fun y10 => Q y10) (Q false)) (Q false))
def M_law_Presses (m : (List Material)) (s_ : (List Layer)) (l : (List Through)) (Q : Bool → Prop) : Prop :=
  M_stack_Presses m s_ l fun y1 y2 => M_ref4_Presses m s_ l fun y3 y4 => M_stack_CheckSpans m s_ l fun y11 => M_ref4_CheckSpans m s_ l fun y12 => cnd (y11 != y12) (M_law_Presses_k1 m s_ l Q true) (cnd (y2 != y4) (M_law_Presses_k1 m s_ l Q true) (M_ref4_SamePresses y1 y3 fun y13 => M_law_Presses_k1 m s_ l Q (!y13)))
set_option maxHeartbeats 1000000 in
theorem R_law_Presses (m : (List Material)) (s_ : (List Layer)) (l : (List Through)) (w0 : World) (mA : Option Addr) (mC : Nat) (hv_m : View w0 (old w0 none_) mA mC m) (s_A : Option Addr) (s_C : Nat) (hv_s_ : View w0 (old w0 none_) s_A s_C s_) (lA : Option Addr) (lC : Nat) (hv_l : View w0 (old w0 none_) lA lC l) (Q : Bool → Prop) (h : M_law_Presses m s_ l Q) :
    Ret Try.prog 12 #[.slice mA m.length mC, .slice s_A s_.length s_C, .slice lA l.length lC] w0 fun v w' => ∃ (r0 : Bool), v = .bool r0 ∧ Q r0 ∧ Sat w0 none_ [] w' := by
  refine fn_enter Try.func12 rfl Try.ntmps12 rfl (fs := [(0, .slice mA m.length mC), (1, .slice s_A s_.length s_C), (2, .slice lA l.length lC)]) rfl (fun a hf => ?_)
  have hs := Sat.start w0 none_
  unfold M_law_Presses at h
  refine wp_seq ?_
  refine R.list ?_
  refine S.val hf hs (v := .bool false) rfl rfl rfl (V.pure rfl) (fun a hf => ?_)
  refine R.nil ?_
  refine X.then_ ?_
  refine wp_seq ?_
  refine R.list ?_
  refine S.val hf hs (v := .slice mA m.length mC) rfl rfl rfl (V.pure rfl) (fun a hf => ?_)
  refine S.val hf hs (v := .slice s_A s_.length s_C) rfl rfl rfl (V.pure rfl) (fun a hf => ?_)
  refine S.val hf hs (v := .slice lA l.length lC) rfl rfl rfl (V.pure rfl) (fun a hf => ?_)
  refine S.call hf rfl rfl rfl (call_fn (vs := [.slice mA m.length mC, .slice s_A s_.length s_C, .slice lA l.length lC]) rfl rfl rfl Try.call38) (R_stack_Presses m s_ l _ mA mC ((Ag.args _ _ _).view hv_m hs) s_A s_C ((Ag.args _ _ _).view hv_s_ hs) lA lC ((Ag.args _ _ _).view hv_l hs) _ h) (fun v a w' hf hr => ?_)
  obtain ⟨y1, y1A, y1C, y1as, y2, rfl, h2, hs2⟩ := hr
  replace h := h2; replace hs := hs.call hs2; clear h2 hs2
  refine S.val hf hs (v := .tuple #[.slice y1A y1.length y1C, .int .i64 y2]) rfl rfl rfl (V.pure rfl) (fun a hf => ?_)
  refine S.val hf hs (v := .slice y1A y1.length y1C) rfl rfl rfl (V.pure rfl) (fun a hf => ?_)
  refine S.val hf hs (v := .int .i64 y2) rfl rfl rfl (V.pure rfl) (fun a hf => ?_)
  refine S.val hf hs (v := .slice y1A y1.length y1C) rfl rfl rfl (V.pure rfl) (fun a hf => ?_)
  refine S.val hf hs (v := .int .i64 y2) rfl rfl rfl (V.pure rfl) (fun a hf => ?_)
  refine R.nil ?_
  refine X.then_ ?_
  refine wp_seq ?_
  refine R.list ?_
  refine S.val hf hs (v := .slice mA m.length mC) rfl rfl rfl (V.pure rfl) (fun a hf => ?_)
  refine S.val hf hs (v := .slice s_A s_.length s_C) rfl rfl rfl (V.pure rfl) (fun a hf => ?_)
  refine S.val hf hs (v := .slice lA l.length lC) rfl rfl rfl (V.pure rfl) (fun a hf => ?_)
  refine S.call hf rfl rfl rfl (call_fn (vs := [.slice mA m.length mC, .slice s_A s_.length s_C, .slice lA l.length lC]) rfl rfl rfl Try.call45) (R_ref4_Presses m s_ l _ mA mC ((Ag.args _ _ _).view hv_m hs) s_A s_C ((Ag.args _ _ _).view hv_s_ hs) lA lC ((Ag.args _ _ _).view hv_l hs) _ h) (fun v a w' hf hr => ?_)
  obtain ⟨y3, y3A, y3C, y3as, y4, rfl, h2, hs2⟩ := hr
  replace h := h2; replace hs := hs.call hs2; clear h2 hs2
  refine S.val hf hs (v := .tuple #[.slice y3A y3.length y3C, .int .i64 y4]) rfl rfl rfl (V.pure rfl) (fun a hf => ?_)
  refine S.val hf hs (v := .slice y3A y3.length y3C) rfl rfl rfl (V.pure rfl) (fun a hf => ?_)
  refine S.val hf hs (v := .int .i64 y4) rfl rfl rfl (V.pure rfl) (fun a hf => ?_)
  refine S.val hf hs (v := .slice y3A y3.length y3C) rfl rfl rfl (V.pure rfl) (fun a hf => ?_)
  refine S.val hf hs (v := .int .i64 y4) rfl rfl rfl (V.pure rfl) (fun a hf => ?_)
  refine R.nil ?_
  refine X.then_ ?_
  refine wp_seq ?_
  refine wp_seq ?_
  refine C.cut (J := fun a w => ∃ (c1 : Bool), M_law_Presses_k1 m s_ l Q c1 ∧ FrOk 72 [(0, .slice mA m.length mC), (1, .slice s_A s_.length s_C), (2, .slice lA l.length lC), (46, .bool c1)] a ∧ Sat w0 none_ [hrows 57 3 y3A y3C y3as y3, hrows 57 3 y1A y1C y1as y1] w) ?_ ?_
  · rintro a w ⟨c1, h, hf, hs⟩
    unfold M_law_Presses_k1 at h
    refine C.cond hf (b := c1) rfl (fun hc => ?_) (fun hc => ?_)
    · replace h := h.1 hc
      refine wp_seq ?_
      refine R.list ?_
      refine S.val hf hs (v := .bool false) rfl rfl rfl (V.pure rfl) (fun a hf => ?_)
      refine R.nil ?_
      refine X.then_ ?_
      refine wp_ret ?_
      refine X.then_ret ?_
      exact L.ret hf (run_results1 Try.results12 (ResIs.tmp hf rfl)) ⟨false, rfl, h, hs.nil⟩
    · replace h := h.2 hc
      refine wp_skip ?_
      refine X.then_ ?_
      refine wp_seq ?_
      refine R.list ?_
      refine S.val hf hs (v := .slice mA m.length mC) rfl rfl rfl (V.pure rfl) (fun a hf => ?_)
      refine S.val hf hs (v := .slice s_A s_.length s_C) rfl rfl rfl (V.pure rfl) (fun a hf => ?_)
      refine S.val hf hs (v := .slice lA l.length lC) rfl rfl rfl (V.pure rfl) (fun a hf => ?_)
      refine S.call hf rfl rfl rfl (call_fn (vs := [.slice mA m.length mC, .slice s_A s_.length s_C, .slice lA l.length lC]) rfl rfl rfl Try.call39) (R_stack_Cycles m s_ l _ mA mC ((Ag.args _ _ _).view hv_m hs) s_A s_C ((Ag.args _ _ _).view hv_s_ hs) lA lC ((Ag.args _ _ _).view hv_l hs) _ h) (fun v a w' hf hr => ?_)
      obtain ⟨y5, y5A, y5C, y6, rfl, h2, hs2⟩ := hr
      replace h := h2; replace hs := hs.call hs2; clear h2 hs2
      refine S.val hf hs (v := .tuple #[.slice y5A y5.length y5C, .int .i64 y6]) rfl rfl rfl (V.pure rfl) (fun a hf => ?_)
      refine S.val hf hs (v := .slice y5A y5.length y5C) rfl rfl rfl (V.pure rfl) (fun a hf => ?_)
      refine S.val hf hs (v := .int .i64 y6) rfl rfl rfl (V.pure rfl) (fun a hf => ?_)
      refine S.val hf hs (v := .slice y5A y5.length y5C) rfl rfl rfl (V.pure rfl) (fun a hf => ?_)
      refine S.val hf hs (v := .int .i64 y6) rfl rfl rfl (V.pure rfl) (fun a hf => ?_)
      refine R.nil ?_
      refine X.then_ ?_
      refine wp_seq ?_
      refine R.list ?_
      refine S.val hf hs (v := .slice mA m.length mC) rfl rfl rfl (V.pure rfl) (fun a hf => ?_)
      refine S.val hf hs (v := .slice s_A s_.length s_C) rfl rfl rfl (V.pure rfl) (fun a hf => ?_)
      refine S.val hf hs (v := .slice lA l.length lC) rfl rfl rfl (V.pure rfl) (fun a hf => ?_)
      refine S.call hf rfl rfl rfl (call_fn (vs := [.slice mA m.length mC, .slice s_A s_.length s_C, .slice lA l.length lC]) rfl rfl rfl Try.call48) (R_ref4_Cycles m s_ l _ mA mC ((Ag.args _ _ _).view hv_m hs) s_A s_C ((Ag.args _ _ _).view hv_s_ hs) lA lC ((Ag.args _ _ _).view hv_l hs) _ h) (fun v a w' hf hr => ?_)
      obtain ⟨y7, y7A, y7C, y8, rfl, h2, hs2⟩ := hr
      replace h := h2; replace hs := hs.call hs2; clear h2 hs2
      refine S.val hf hs (v := .tuple #[.slice y7A y7.length y7C, .int .i64 y8]) rfl rfl rfl (V.pure rfl) (fun a hf => ?_)
      refine S.val hf hs (v := .slice y7A y7.length y7C) rfl rfl rfl (V.pure rfl) (fun a hf => ?_)
      refine S.val hf hs (v := .int .i64 y8) rfl rfl rfl (V.pure rfl) (fun a hf => ?_)
      refine S.val hf hs (v := .slice y7A y7.length y7C) rfl rfl rfl (V.pure rfl) (fun a hf => ?_)
      refine S.val hf hs (v := .int .i64 y8) rfl rfl rfl (V.pure rfl) (fun a hf => ?_)
      refine R.nil ?_
      refine X.then_ ?_
      refine wp_seq ?_
      refine R.list ?_
      refine S.val hf hs (v := .int .i64 y6) rfl rfl rfl (V.pure rfl) (fun a hf => ?_)
      refine S.val hf hs (v := .int .i64 y8) rfl rfl rfl (V.pure rfl) (fun a hf => ?_)
      refine S.val hf hs (v := .bool (y6 == y8)) rfl rfl rfl (V.pure rfl) (fun a hf => ?_)
      refine S.split hf hs (b := y6 == y8) rfl rfl rfl (V.pure rfl) (fun hc a hf => ?_) (fun hc a hf => ?_)
      · replace h := h.1 hc
        refine S.val hf hs (v := .slice y5A y5.length y5C) rfl rfl rfl (V.pure rfl) (fun a hf => ?_)
        refine S.val hf hs (v := .slice y7A y7.length y7C) rfl rfl rfl (V.pure rfl) (fun a hf => ?_)
        refine S.call hf rfl rfl rfl (call_fn (vs := [.slice y5A y5.length y5C, .slice y7A y7.length y7C]) rfl rfl rfl Try.call37) (R_equal_int y5 y7 _ y5A y5C (hs.ownView 1 rfl) y7A y7C (hs.ownView 0 rfl) _ h) (fun v a w' hf hr => ?_)
        obtain ⟨y9, rfl, h2, hs2⟩ := hr
        replace h := h2; replace hs := hs.call hs2; clear h2 hs2
        refine S.val hf hs (v := .bool y9) rfl rfl rfl (V.pure rfl) (fun a hf => ?_)
        refine S.split hf hs (b := y9) rfl rfl rfl (V.pure rfl) (fun hc a hf => ?_) (fun hc a hf => ?_)
        · replace h := h.1 hc
          refine S.call hf rfl rfl rfl (call_fn (vs := []) rfl rfl rfl Try.call20) (R_awake  _  _ h) (fun v a w' hf hr => ?_)
          obtain ⟨y10, rfl, h2, hs2⟩ := hr
          replace h := h2; replace hs := hs.call hs2; clear h2 hs2
          refine S.val hf hs (v := .bool y10) rfl rfl rfl (V.pure rfl) (fun a hf => ?_)
          refine S.val hf hs (v := .bool y10) rfl rfl rfl (V.pure rfl) (fun a hf => ?_)
          refine R.nil ?_
          refine X.then_ ?_
          refine wp_ret ?_
          exact L.ret hf (run_results1 Try.results12 (ResIs.tmp hf rfl)) ⟨y10, rfl, h, hs.nil⟩
        · replace h := h.2 hc
          refine S.skip hf rfl rfl rfl (fun a hf => ?_)
          refine S.val hf hs (v := .bool false) rfl rfl rfl (V.pure rfl) (fun a hf => ?_)
          refine S.val hf hs (v := .bool false) rfl rfl rfl (V.pure rfl) (fun a hf => ?_)
          refine R.nil ?_
          refine X.then_ ?_
          refine wp_ret ?_
          exact L.ret hf (run_results1 Try.results12 (ResIs.tmp hf rfl)) ⟨false, rfl, h, hs.nil⟩
      · replace h := h.2 hc
        refine S.skip hf rfl rfl rfl (fun a hf => ?_)
        refine S.skip hf rfl rfl rfl (fun a hf => ?_)
        refine S.skip hf rfl rfl rfl (fun a hf => ?_)
        refine S.val hf hs (v := .bool false) rfl rfl rfl (V.pure rfl) (fun a hf => ?_)
        refine S.val hf hs (v := .bool false) rfl rfl rfl (V.pure rfl) (fun a hf => ?_)
        refine S.skip hf rfl rfl rfl (fun a hf => ?_)
        refine S.val hf hs (v := .bool false) rfl rfl rfl (V.pure rfl) (fun a hf => ?_)
        refine S.val hf hs (v := .bool false) rfl rfl rfl (V.pure rfl) (fun a hf => ?_)
        refine R.nil ?_
        refine X.then_ ?_
        refine wp_ret ?_
        exact L.ret hf (run_results1 Try.results12 (ResIs.tmp hf rfl)) ⟨false, rfl, h, hs.nil⟩
  · skip
    refine R.list ?_
    refine S.val hf hs (v := .slice mA m.length mC) rfl rfl rfl (V.pure rfl) (fun a hf => ?_)
    refine S.val hf hs (v := .slice s_A s_.length s_C) rfl rfl rfl (V.pure rfl) (fun a hf => ?_)
    refine S.val hf hs (v := .slice lA l.length lC) rfl rfl rfl (V.pure rfl) (fun a hf => ?_)
    refine S.call hf rfl rfl rfl (call_fn (vs := [.slice mA m.length mC, .slice s_A s_.length s_C, .slice lA l.length lC]) rfl rfl rfl Try.call44) (R_stack_CheckSpans m s_ l _ mA mC ((Ag.args _ _ _).view hv_m hs) s_A s_C ((Ag.args _ _ _).view hv_s_ hs) lA lC ((Ag.args _ _ _).view hv_l hs) _ h) (fun v a w' hf hr => ?_)
    obtain ⟨y11, rfl, h2, hs2⟩ := hr
    replace h := h2; replace hs := hs.call hs2; clear h2 hs2
    refine S.val hf hs (v := .slice mA m.length mC) rfl rfl rfl (V.pure rfl) (fun a hf => ?_)
    refine S.val hf hs (v := .slice s_A s_.length s_C) rfl rfl rfl (V.pure rfl) (fun a hf => ?_)
    refine S.val hf hs (v := .slice lA l.length lC) rfl rfl rfl (V.pure rfl) (fun a hf => ?_)
    refine S.call hf rfl rfl rfl (call_fn (vs := [.slice mA m.length mC, .slice s_A s_.length s_C, .slice lA l.length lC]) rfl rfl rfl Try.call46) (R_ref4_CheckSpans m s_ l _ mA mC ((Ag.args _ _ _).view hv_m hs) s_A s_C ((Ag.args _ _ _).view hv_s_ hs) lA lC ((Ag.args _ _ _).view hv_l hs) _ h) (fun v a w' hf hr => ?_)
    obtain ⟨y12, rfl, h2, hs2⟩ := hr
    replace h := h2; replace hs := hs.call hs2; clear h2 hs2
    refine S.val hf hs (v := .bool (y11 != y12)) rfl rfl rfl (V.pure rfl) (fun a hf => ?_)
    refine S.split hf hs (b := y11 != y12) rfl rfl rfl (V.pure rfl) (fun hc a hf => ?_) (fun hc a hf => ?_)
    · replace h := h.1 hc
      refine S.skip hf rfl rfl rfl (fun a hf => ?_)
      refine S.skip hf rfl rfl rfl (fun a hf => ?_)
      refine S.skip hf rfl rfl rfl (fun a hf => ?_)
      refine S.val hf hs (v := .bool true) rfl rfl rfl (V.pure rfl) (fun a hf => ?_)
      refine S.val hf hs (v := .bool true) rfl rfl rfl (V.pure rfl) (fun a hf => ?_)
      refine S.skip hf rfl rfl rfl (fun a hf => ?_)
      refine S.skip hf rfl rfl rfl (fun a hf => ?_)
      refine S.skip hf rfl rfl rfl (fun a hf => ?_)
      refine S.skip hf rfl rfl rfl (fun a hf => ?_)
      refine S.val hf hs (v := .bool true) rfl rfl rfl (V.pure rfl) (fun a hf => ?_)
      refine R.nil ?_
      refine X.then_ ?_
      exact ⟨true, h, ((((hf.nil.cons (hf.get 46 _ rfl)).cons (hf.get 2 _ rfl)).cons (hf.get 1 _ rfl)).cons (hf.get 0 _ rfl)), hs⟩
    · replace h := h.2 hc
      refine S.val hf hs (v := .int .i64 y2) rfl rfl rfl (V.pure rfl) (fun a hf => ?_)
      refine S.val hf hs (v := .int .i64 y4) rfl rfl rfl (V.pure rfl) (fun a hf => ?_)
      refine S.val hf hs (v := .bool (y2 != y4)) rfl rfl rfl (V.pure rfl) (fun a hf => ?_)
      refine S.val hf hs (v := .bool (y2 != y4)) rfl rfl rfl (V.pure rfl) (fun a hf => ?_)
      refine S.split hf hs (b := y2 != y4) rfl rfl rfl (V.pure rfl) (fun hc a hf => ?_) (fun hc a hf => ?_)
      · replace h := h.1 hc
        refine S.skip hf rfl rfl rfl (fun a hf => ?_)
        refine S.skip hf rfl rfl rfl (fun a hf => ?_)
        refine S.skip hf rfl rfl rfl (fun a hf => ?_)
        refine S.skip hf rfl rfl rfl (fun a hf => ?_)
        refine S.val hf hs (v := .bool true) rfl rfl rfl (V.pure rfl) (fun a hf => ?_)
        refine R.nil ?_
        refine X.then_ ?_
        exact ⟨true, h, ((((hf.nil.cons (hf.get 46 _ rfl)).cons (hf.get 2 _ rfl)).cons (hf.get 1 _ rfl)).cons (hf.get 0 _ rfl)), hs⟩
      · replace h := h.2 hc
        refine S.val hf hs (v := .slice y1A y1.length y1C) rfl rfl rfl (V.pure rfl) (fun a hf => ?_)
        refine S.val hf hs (v := .slice y3A y3.length y3C) rfl rfl rfl (V.pure rfl) (fun a hf => ?_)
        refine S.call hf rfl rfl rfl (call_fn (vs := [.slice y1A y1.length y1C, .slice y3A y3.length y3C]) rfl rfl rfl Try.call47) (R_ref4_SamePresses y1 y3 _ y1A y1C (hs.rowsView 1 rfl) y3A y3C (hs.rowsView 0 rfl) _ h) (fun v a w' hf hr => ?_)
        obtain ⟨y13, rfl, h2, hs2⟩ := hr
        replace h := h2; replace hs := hs.call hs2; clear h2 hs2
        refine S.val hf hs (v := .bool (!y13)) rfl rfl rfl (V.pure rfl) (fun a hf => ?_)
        refine S.val hf hs (v := .bool (!y13)) rfl rfl rfl (V.pure rfl) (fun a hf => ?_)
        refine R.nil ?_
        refine X.then_ ?_
        exact ⟨(!y13), h, ((((hf.nil.cons (hf.get 46 _ rfl)).cons (hf.get 2 _ rfl)).cons (hf.get 1 _ rfl)).cons (hf.get 0 _ rfl)), hs⟩

set_option linter.unusedVariables false
def M_law_BuildUp_L2 (Q : Bool → Prop) (k2 : Nat) (xk2 : Int)  (next2 : Prop) : Prop :=
  cnd (xk2 != 1) (Q false) (next2)
def M_law_BuildUp_k5 (Q : Bool → Prop) (next4 : Prop) (c1 : Bool) : Prop :=
  cnd c1 (Q false) (next4)
def M_law_BuildUp_L4 (Q : Bool → Prop) (xk1 : Press) (k4 : Nat) (xk4 : Press)  (next4 : Prop) : Prop :=
  cnd (decide (xk4.From ≤ xk1.From)) (M_law_BuildUp_k5 Q next4 (decide (xk1.To ≤ xk4.To))) (M_law_BuildUp_k5 Q next4 false)
def M_law_BuildUp_k6 (Q : Bool → Prop) (xk3 : Int) (l4 : List Int) (next3 : List Int → Prop) (c2 : Bool) : Prop :=
  cnd c2 (Q false) (idx l4 xk3 fun x2 => next3 (l4.set xk3.toNat (w64 (x2 + 1))))
def M_law_BuildUp_L3 (l : (List Through)) (Q : Bool → Prop) (xk1 : Press) (k3 : Nat) (xk3 : Int) (l4 : List Int) (next3 : List Int → Prop) : Prop :=
  cnd (decide (xk3 < 0)) (M_law_BuildUp_k6 Q xk3 l4 next3 true) (cnd (decide (xk3 ≥ (l.length : Int))) (M_law_BuildUp_k6 Q xk3 l4 next3 true) (idx l xk3 fun x3 => M_law_BuildUp_k6 Q xk3 l4 next3 (!(decide (x3 = (⟨xk1.From, xk1.To⟩ : Through))))))
def M_law_BuildUp_L1 (l : (List Through)) (Q : Bool → Prop) (y1 : (List Press)) (k1 : Nat) (xk1 : Press) (l2 : List Int) (next1 : List Int → Prop) : Prop :=
  forIn' (fun k x (s : List Int) next => M_law_BuildUp_L3 l Q xk1 k x s (fun l4 => next l4)) (fun (s : List Int) => (fun (l4 : List Int) => must (0 ≤ (k1 : Int) ∧ (k1 : Int) ≤ (y1.length : Int)) (forIn' (fun k x (s : Unit) next => M_law_BuildUp_L4 Q xk1 k x (next ())) (fun (s : Unit) => next1 l4) (y1.take (k1 : Int).toNat) 0 ())) s) xk1.Holes 0 l2
def M_law_BuildUp (m : (List Material)) (s_ : (List Layer)) (l : (List Through)) (Q : Bool → Prop) : Prop :=
  M_stack_Presses m s_ l fun y1 y2 => cnd (y2 != 0) (cnd ((y1.length : Int) == 0) (M_awake  fun y3 => Q y3) (Q false)) (must (0 ≤ (l.length : Int) ∧ (l.length : Int) * 8 ≤ 281474976710656) (forIn' (fun k x (s : List Int) next => M_law_BuildUp_L1 l Q y1 k x s (fun l2 => next l2)) (fun (s : List Int) => (fun (l2 : List Int) => forIn' (fun k x (s : Unit) next => M_law_BuildUp_L2 Q k x (next ())) (fun (s : Unit) => M_stack_Cycles m s_ l fun y4 y5 => cnd (y5 == 0) (cnd (decide ((y1.length : Int) > 0)) (idx y1 (w64 ((y1.length : Int) - 1)) fun x1 => cnd (x1.From == 1) (cnd (x1.To == (y4.length : Int)) (M_awake  fun y6 => Q y6) (Q false)) (Q false)) (Q false)) (Q false)) l2 0 ()) s) y1 0 (List.replicate l.length (0 : Int))))
set_option maxHeartbeats 1000000 in
theorem R_law_BuildUp (m : (List Material)) (s_ : (List Layer)) (l : (List Through)) (w0 : World) (mA : Option Addr) (mC : Nat) (hv_m : View w0 (old w0 none_) mA mC m) (s_A : Option Addr) (s_C : Nat) (hv_s_ : View w0 (old w0 none_) s_A s_C s_) (lA : Option Addr) (lC : Nat) (hv_l : View w0 (old w0 none_) lA lC l) (Q : Bool → Prop) (h : M_law_BuildUp m s_ l Q) :
    Ret Try.prog 9 #[.slice mA m.length mC, .slice s_A s_.length s_C, .slice lA l.length lC] w0 fun v w' => ∃ (r0 : Bool), v = .bool r0 ∧ Q r0 ∧ Sat w0 none_ [] w' := by
  refine fn_enter Try.func9 rfl Try.ntmps9 rfl (fs := [(0, .slice mA m.length mC), (1, .slice s_A s_.length s_C), (2, .slice lA l.length lC)]) rfl (fun a hf => ?_)
  have hs := Sat.start w0 none_
  unfold M_law_BuildUp at h
  refine wp_seq ?_
  refine R.list ?_
  refine S.val hf hs (v := .bool false) rfl rfl rfl (V.pure rfl) (fun a hf => ?_)
  refine R.nil ?_
  refine X.then_ ?_
  refine wp_seq ?_
  refine R.list ?_
  refine S.val hf hs (v := .slice mA m.length mC) rfl rfl rfl (V.pure rfl) (fun a hf => ?_)
  refine S.val hf hs (v := .slice s_A s_.length s_C) rfl rfl rfl (V.pure rfl) (fun a hf => ?_)
  refine S.val hf hs (v := .slice lA l.length lC) rfl rfl rfl (V.pure rfl) (fun a hf => ?_)
  refine S.call hf rfl rfl rfl (call_fn (vs := [.slice mA m.length mC, .slice s_A s_.length s_C, .slice lA l.length lC]) rfl rfl rfl Try.call38) (R_stack_Presses m s_ l _ mA mC ((Ag.args _ _ _).view hv_m hs) s_A s_C ((Ag.args _ _ _).view hv_s_ hs) lA lC ((Ag.args _ _ _).view hv_l hs) _ h) (fun v a w' hf hr => ?_)
  obtain ⟨y1, y1A, y1C, y1as, y2, rfl, h2, hs2⟩ := hr
  replace h := h2; replace hs := hs.call hs2; clear h2 hs2
  refine S.val hf hs (v := .tuple #[.slice y1A y1.length y1C, .int .i64 y2]) rfl rfl rfl (V.pure rfl) (fun a hf => ?_)
  refine S.val hf hs (v := .slice y1A y1.length y1C) rfl rfl rfl (V.pure rfl) (fun a hf => ?_)
  refine S.val hf hs (v := .int .i64 y2) rfl rfl rfl (V.pure rfl) (fun a hf => ?_)
  refine S.val hf hs (v := .slice y1A y1.length y1C) rfl rfl rfl (V.pure rfl) (fun a hf => ?_)
  refine S.val hf hs (v := .int .i64 y2) rfl rfl rfl (V.pure rfl) (fun a hf => ?_)
  refine R.nil ?_
  refine X.then_ ?_
  refine wp_seq ?_
  refine wp_seq ?_
  refine R.list ?_
  refine S.val hf hs (v := .int .i64 y2) rfl rfl rfl (V.pure rfl) (fun a hf => ?_)
  refine S.val hf hs (v := .bool (y2 != 0)) rfl rfl rfl (V.pure rfl) (fun a hf => ?_)
  refine R.nil ?_
  refine X.then_ ?_
  refine C.cond hf (b := y2 != 0) rfl (fun hc => ?_) (fun hc => ?_)
  · replace h := h.1 hc
    refine wp_seq ?_
    refine R.list ?_
    refine S.val hf hs (v := .slice y1A y1.length y1C) rfl rfl rfl (V.pure rfl) (fun a hf => ?_)
    refine S.val hf hs (v := .int .i64 (y1.length : Int)) rfl rfl rfl (V.len rfl rfl Try.runUnderlying53) (fun a hf => ?_)
    refine S.val hf hs (v := .bool ((y1.length : Int) == 0)) rfl rfl rfl (V.pure rfl) (fun a hf => ?_)
    refine S.split hf hs (b := (y1.length : Int) == 0) rfl rfl rfl (V.pure rfl) (fun hc a hf => ?_) (fun hc a hf => ?_)
    · replace h := h.1 hc
      refine S.call hf rfl rfl rfl (call_fn (vs := []) rfl rfl rfl Try.call20) (R_awake  _  _ h) (fun v a w' hf hr => ?_)
      obtain ⟨y3, rfl, h2, hs2⟩ := hr
      replace h := h2; replace hs := hs.call hs2; clear h2 hs2
      refine S.val hf hs (v := .bool y3) rfl rfl rfl (V.pure rfl) (fun a hf => ?_)
      refine S.val hf hs (v := .bool y3) rfl rfl rfl (V.pure rfl) (fun a hf => ?_)
      refine R.nil ?_
      refine X.then_ ?_
      refine wp_ret ?_
      refine X.then_ret ?_
      exact L.ret hf (run_results1 Try.results9 (ResIs.tmp hf rfl)) ⟨y3, rfl, h, hs.nil⟩
    · replace h := h.2 hc
      refine S.skip hf rfl rfl rfl (fun a hf => ?_)
      refine S.val hf hs (v := .bool false) rfl rfl rfl (V.pure rfl) (fun a hf => ?_)
      refine S.val hf hs (v := .bool false) rfl rfl rfl (V.pure rfl) (fun a hf => ?_)
      refine R.nil ?_
      refine X.then_ ?_
      refine wp_ret ?_
      refine X.then_ret ?_
      exact L.ret hf (run_results1 Try.results9 (ResIs.tmp hf rfl)) ⟨false, rfl, h, hs.nil⟩
  · replace h := h.2 hc
    refine wp_skip ?_
    refine X.then_ ?_
    refine wp_seq ?_
    refine R.list ?_
    refine S.val hf hs (v := .slice lA l.length lC) rfl rfl rfl (V.pure rfl) (fun a hf => ?_)
    refine S.val hf hs (v := .int .i64 (l.length : Int)) rfl rfl rfl (V.len rfl rfl Try.runUnderlying52) (fun a hf => ?_)
    obtain ⟨hmk, h⟩ := h
    refine S.make hf hs rfl rfl rfl (α := Int) (0 : Int) (z := (l.length : Int)) (N := l.length) rfl rfl rfl Try.underlying43 info3 hmk rfl (by have := hmk.2; omega) (fun A1 a w hf hs => ?_)
    refine S.val hf hs (v := .slice A1 (List.replicate l.length (0 : Int)).length l.length) rfl rfl rfl (V.pure rfl) (fun a hf => ?_)
    refine R.nil ?_
    refine X.then_ ?_
    refine wp_seq ?_
    refine wp_seq ?_
    refine R.list ?_
    refine S.val hf hs (v := .slice y1A y1.length y1C) rfl rfl rfl (V.pure rfl) (fun a hf => ?_)
    refine S.val hf hs (v := .int .i64 (y1.length : Int)) rfl rfl rfl (V.len rfl rfl Try.runUnderlying53) (fun a hf => ?_)
    refine S.val hf hs (v := .int .i64 0) rfl rfl rfl (V.pure rfl) (fun a hf => ?_)
    refine R.nil ?_
    refine X.then_ ?_
    refine wp_block ?_
    have hlenk1 := (hs.rowsView 1 rfl).len64
    refine C.range (fun (ll : List Press) a w => ∃ (k1 : Nat) (l2 : List Int) (l2A : Option Addr) (l2C : Nat), y1.drop k1 = ll ∧ k1 + ll.length = y1.length ∧ forIn' (fun k x (s : List Int) next => M_law_BuildUp_L1 l Q y1 k x s (fun l2 => next l2)) (fun (s : List Int) => (fun (l2 : List Int) => forIn' (fun k x (s : Unit) next => M_law_BuildUp_L2 Q k x (next ())) (fun (s : Unit) => M_stack_Cycles m s_ l fun y4 y5 => cnd (y5 == 0) (cnd (decide ((y1.length : Int) > 0)) (idx y1 (w64 ((y1.length : Int) - 1)) fun x1 => cnd (x1.From == 1) (cnd (x1.To == (y4.length : Int)) (M_awake  fun y6 => Q y6) (Q false)) (Q false)) (Q false)) (Q false)) l2 0 ()) s) ll k1 l2 ∧ FrOk 148 [(39, .int .i64 (k1 : Int)), (0, .slice mA m.length mC), (1, .slice s_A s_.length s_C), (2, .slice lA l.length lC), (7, .slice y1A y1.length y1C), (9, .slice l2A l2.length l2C), (37, .slice y1A y1.length y1C), (38, .int .i64 (y1.length : Int))] a ∧ Sat w0 none_ [hown 3 l2A l2C l2, hrows 57 3 y1A y1C y1as y1] w) y1 ⟨0, (List.replicate l.length (0 : Int)), A1, l.length, rfl, Nat.zero_add _, h, ((((((((hf.nil.cons (hf.get 38 _ rfl)).cons (hf.get 37 _ rfl)).cons (hf.get 9 _ rfl)).cons (hf.get 7 _ rfl)).cons (hf.get 2 _ rfl)).cons (hf.get 1 _ rfl)).cons (hf.get 0 _ rfl)).cons (hf.get 39 _ rfl)), hs⟩ ?_
    clear h hf hs
    rintro llk1 a w ⟨k1, l2, l2A, l2C, hlk1, hkk1, h, hf, hs⟩
    cases llk1 with
    | nil =>
      have hc := range_done hkk1
      replace h : (fun (l2 : List Int) => forIn' (fun k x (s : Unit) next => M_law_BuildUp_L2 Q k x (next ())) (fun (s : Unit) => M_stack_Cycles m s_ l fun y4 y5 => cnd (y5 == 0) (cnd (decide ((y1.length : Int) > 0)) (idx y1 (w64 ((y1.length : Int) - 1)) fun x1 => cnd (x1.From == 1) (cnd (x1.To == (y4.length : Int)) (M_awake  fun y6 => Q y6) (Q false)) (Q false)) (Q false)) (Q false)) l2 0 ()) l2 := h
      refine wp_seq ?_
      refine R.list ?_
      refine S.val hf hs (v := .bool false) rfl rfl rfl (V.cmp false rfl rfl rfl rfl hc) (fun a hf => ?_)
      refine R.nil ?_
      refine X.then_ ?_
      refine wp_seq ?_
      refine C.no hf rfl ?_
      refine wp_exit ?_
      refine X.then_exit ?_
      refine X.then_exit ?_
      refine X.blk_exit ?_
      refine X.then_ ?_
      refine wp_seq ?_
      refine wp_seq ?_
      refine R.list ?_
      refine S.val hf hs (v := .slice l2A l2.length l2C) rfl rfl rfl (V.pure rfl) (fun a hf => ?_)
      refine S.val hf hs (v := .int .i64 (l2.length : Int)) rfl rfl rfl (V.len rfl rfl Try.runUnderlying43) (fun a hf => ?_)
      refine S.val hf hs (v := .int .i64 0) rfl rfl rfl (V.pure rfl) (fun a hf => ?_)
      refine R.nil ?_
      refine X.then_ ?_
      refine wp_block ?_
      have hlenk2 := (hs.ownView 0 rfl).len64
      refine C.range (fun (ll : List Int) a w => ∃ (k2 : Nat) , l2.drop k2 = ll ∧ k2 + ll.length = l2.length ∧ forIn' (fun k x (s : Unit) next => M_law_BuildUp_L2 Q k x (next ())) (fun (s : Unit) => M_stack_Cycles m s_ l fun y4 y5 => cnd (y5 == 0) (cnd (decide ((y1.length : Int) > 0)) (idx y1 (w64 ((y1.length : Int) - 1)) fun x1 => cnd (x1.From == 1) (cnd (x1.To == (y4.length : Int)) (M_awake  fun y6 => Q y6) (Q false)) (Q false)) (Q false)) (Q false)) ll k2 () ∧ FrOk 148 [(102, .int .i64 (k2 : Int)), (0, .slice mA m.length mC), (1, .slice s_A s_.length s_C), (2, .slice lA l.length lC), (7, .slice y1A y1.length y1C), (100, .slice l2A l2.length l2C), (101, .int .i64 (l2.length : Int))] a ∧ Sat w0 none_ [hown 3 l2A l2C l2, hrows 57 3 y1A y1C y1as y1] w) l2 ⟨0, rfl, Nat.zero_add _, h, (((((((hf.nil.cons (hf.get 101 _ rfl)).cons (hf.get 100 _ rfl)).cons (hf.get 7 _ rfl)).cons (hf.get 2 _ rfl)).cons (hf.get 1 _ rfl)).cons (hf.get 0 _ rfl)).cons (hf.get 102 _ rfl)), hs⟩ ?_
      clear h hf hs
      rintro llk2 a w ⟨k2, hlk2, hkk2, h, hf, hs⟩
      cases llk2 with
      | nil =>
        have hc := range_done hkk2
        replace h : M_stack_Cycles m s_ l fun y4 y5 => cnd (y5 == 0) (cnd (decide ((y1.length : Int) > 0)) (idx y1 (w64 ((y1.length : Int) - 1)) fun x1 => cnd (x1.From == 1) (cnd (x1.To == (y4.length : Int)) (M_awake  fun y6 => Q y6) (Q false)) (Q false)) (Q false)) (Q false) := h
        refine wp_seq ?_
        refine R.list ?_
        refine S.val hf hs (v := .bool false) rfl rfl rfl (V.cmp false rfl rfl rfl rfl hc) (fun a hf => ?_)
        refine R.nil ?_
        refine X.then_ ?_
        refine wp_seq ?_
        refine C.no hf rfl ?_
        refine wp_exit ?_
        refine X.then_exit ?_
        refine X.then_exit ?_
        refine X.blk_exit ?_
        refine X.then_ ?_
        refine wp_seq ?_
        refine R.list ?_
        refine S.val hf hs (v := .slice mA m.length mC) rfl rfl rfl (V.pure rfl) (fun a hf => ?_)
        refine S.val hf hs (v := .slice s_A s_.length s_C) rfl rfl rfl (V.pure rfl) (fun a hf => ?_)
        refine S.val hf hs (v := .slice lA l.length lC) rfl rfl rfl (V.pure rfl) (fun a hf => ?_)
        refine S.call hf rfl rfl rfl (call_fn (vs := [.slice mA m.length mC, .slice s_A s_.length s_C, .slice lA l.length lC]) rfl rfl rfl Try.call39) (R_stack_Cycles m s_ l _ mA mC ((Ag.args _ _ _).view hv_m hs) s_A s_C ((Ag.args _ _ _).view hv_s_ hs) lA lC ((Ag.args _ _ _).view hv_l hs) _ h) (fun v a w' hf hr => ?_)
        obtain ⟨y4, y4A, y4C, y5, rfl, h2, hs2⟩ := hr
        replace h := h2; replace hs := hs.call hs2; clear h2 hs2
        refine S.val hf hs (v := .tuple #[.slice y4A y4.length y4C, .int .i64 y5]) rfl rfl rfl (V.pure rfl) (fun a hf => ?_)
        refine S.val hf hs (v := .slice y4A y4.length y4C) rfl rfl rfl (V.pure rfl) (fun a hf => ?_)
        refine S.val hf hs (v := .int .i64 y5) rfl rfl rfl (V.pure rfl) (fun a hf => ?_)
        refine S.val hf hs (v := .slice y4A y4.length y4C) rfl rfl rfl (V.pure rfl) (fun a hf => ?_)
        refine S.val hf hs (v := .int .i64 y5) rfl rfl rfl (V.pure rfl) (fun a hf => ?_)
        refine R.nil ?_
        refine X.then_ ?_
        refine wp_seq ?_
        refine R.list ?_
        refine S.val hf hs (v := .int .i64 y5) rfl rfl rfl (V.pure rfl) (fun a hf => ?_)
        refine S.val hf hs (v := .bool (y5 == 0)) rfl rfl rfl (V.pure rfl) (fun a hf => ?_)
        refine S.split hf hs (b := y5 == 0) rfl rfl rfl (V.pure rfl) (fun hc a hf => ?_) (fun hc a hf => ?_)
        · replace h := h.1 hc
          refine S.val hf hs (v := .slice y1A y1.length y1C) rfl rfl rfl (V.pure rfl) (fun a hf => ?_)
          refine S.val hf hs (v := .int .i64 (y1.length : Int)) rfl rfl rfl (V.len rfl rfl Try.runUnderlying53) (fun a hf => ?_)
          refine S.val hf hs (v := .bool (decide ((y1.length : Int) > 0))) rfl rfl rfl (V.pure rfl) (fun a hf => ?_)
          refine S.val hf hs (v := .bool (decide ((y1.length : Int) > 0))) rfl rfl rfl (V.pure rfl) (fun a hf => ?_)
          refine S.split hf hs (b := decide ((y1.length : Int) > 0)) rfl rfl rfl (V.pure rfl) (fun hc a hf => ?_) (fun hc a hf => ?_)
          · replace h := h.1 hc
            refine S.val hf hs (v := .slice y1A y1.length y1C) rfl rfl rfl (V.pure rfl) (fun a hf => ?_)
            refine S.val hf hs (v := .slice y1A y1.length y1C) rfl rfl rfl (V.pure rfl) (fun a hf => ?_)
            refine S.val hf hs (v := .int .i64 (y1.length : Int)) rfl rfl rfl (V.len rfl rfl Try.runUnderlying53) (fun a hf => ?_)
            refine S.val hf hs (v := .int .i64 (w64 ((y1.length : Int) - 1))) rfl rfl rfl (V.pure rfl) (fun a hf => ?_)
            obtain ⟨h0x1, x1, hx1, h⟩ := h
            refine S.val hf hs (v := elemPtr y1A ((w64 ((y1.length : Int) - 1)).toNat * 4)) rfl rfl rfl (V.index rfl rfl rfl Try.runUnderlying53 Try.sizeOf57 (hs.rowsSome 2 rfl hx1) h0x1 (lt_of_get hx1) rfl) (fun a hf => ?_)
            refine S.val hf hs (v := elemPtr y1A ((w64 ((y1.length : Int) - 1)).toNat * 4)) rfl rfl rfl (V.fieldEl rfl rfl (hs.rowsSome 2 rfl hx1) Try.runUnderlying57 rfl Try.sizeOf3 rfl rfl) (fun a hf => ?_)
            obtain ⟨B1, D1, hrB1⟩ := hs.rowAt 2 rfl hx1
            refine S.val hf hs (v := .int .i64 x1.From) rfl rfl rfl (V.loadRows (off := 0) 2 rfl hx1 hrB1 rfl rfl rfl Try.isAgg3 Try.sizeOf3 rfl rfl) (fun a hf => ?_)
            refine S.val hf hs (v := .bool (x1.From == 1)) rfl rfl rfl (V.pure rfl) (fun a hf => ?_)
            refine S.val hf hs (v := .bool (x1.From == 1)) rfl rfl rfl (V.pure rfl) (fun a hf => ?_)
            refine S.split hf hs (b := x1.From == 1) rfl rfl rfl (V.pure rfl) (fun hc a hf => ?_) (fun hc a hf => ?_)
            · replace h := h.1 hc
              refine S.val hf hs (v := .slice y1A y1.length y1C) rfl rfl rfl (V.pure rfl) (fun a hf => ?_)
              refine S.val hf hs (v := .slice y1A y1.length y1C) rfl rfl rfl (V.pure rfl) (fun a hf => ?_)
              refine S.val hf hs (v := .int .i64 (y1.length : Int)) rfl rfl rfl (V.len rfl rfl Try.runUnderlying53) (fun a hf => ?_)
              refine S.val hf hs (v := .int .i64 (w64 ((y1.length : Int) - 1))) rfl rfl rfl (V.pure rfl) (fun a hf => ?_)
              refine S.val hf hs (v := elemPtr y1A ((w64 ((y1.length : Int) - 1)).toNat * 4)) rfl rfl rfl (V.index rfl rfl rfl Try.runUnderlying53 Try.sizeOf57 (hs.rowsSome 2 rfl hx1) h0x1 (lt_of_get hx1) rfl) (fun a hf => ?_)
              refine S.val hf hs (v := elemPtr y1A ((w64 ((y1.length : Int) - 1)).toNat * 4 + 1)) rfl rfl rfl (V.fieldEl rfl rfl (hs.rowsSome 2 rfl hx1) Try.runUnderlying57 rfl Try.sizeOf3 rfl rfl) (fun a hf => ?_)
              refine S.val hf hs (v := .int .i64 x1.To) rfl rfl rfl (V.loadRows (off := 1) 2 rfl hx1 hrB1 rfl rfl rfl Try.isAgg3 Try.sizeOf3 rfl rfl) (fun a hf => ?_)
              refine S.val hf hs (v := .slice y4A y4.length y4C) rfl rfl rfl (V.pure rfl) (fun a hf => ?_)
              refine S.val hf hs (v := .int .i64 (y4.length : Int)) rfl rfl rfl (V.len rfl rfl Try.runUnderlying43) (fun a hf => ?_)
              refine S.val hf hs (v := .bool (x1.To == (y4.length : Int))) rfl rfl rfl (V.pure rfl) (fun a hf => ?_)
              refine S.val hf hs (v := .bool (x1.To == (y4.length : Int))) rfl rfl rfl (V.pure rfl) (fun a hf => ?_)
              refine S.split hf hs (b := x1.To == (y4.length : Int)) rfl rfl rfl (V.pure rfl) (fun hc a hf => ?_) (fun hc a hf => ?_)
              · replace h := h.1 hc
                refine S.call hf rfl rfl rfl (call_fn (vs := []) rfl rfl rfl Try.call20) (R_awake  _  _ h) (fun v a w' hf hr => ?_)
                obtain ⟨y6, rfl, h2, hs2⟩ := hr
                replace h := h2; replace hs := hs.call hs2; clear h2 hs2
                refine S.val hf hs (v := .bool y6) rfl rfl rfl (V.pure rfl) (fun a hf => ?_)
                refine S.val hf hs (v := .bool y6) rfl rfl rfl (V.pure rfl) (fun a hf => ?_)
                refine R.nil ?_
                refine X.then_ ?_
                refine wp_ret ?_
                exact L.ret hf (run_results1 Try.results9 (ResIs.tmp hf rfl)) ⟨y6, rfl, h, hs.nil⟩
              · replace h := h.2 hc
                refine S.skip hf rfl rfl rfl (fun a hf => ?_)
                refine S.val hf hs (v := .bool false) rfl rfl rfl (V.pure rfl) (fun a hf => ?_)
                refine S.val hf hs (v := .bool false) rfl rfl rfl (V.pure rfl) (fun a hf => ?_)
                refine R.nil ?_
                refine X.then_ ?_
                refine wp_ret ?_
                exact L.ret hf (run_results1 Try.results9 (ResIs.tmp hf rfl)) ⟨false, rfl, h, hs.nil⟩
            · replace h := h.2 hc
              refine S.skip hf rfl rfl rfl (fun a hf => ?_)
              refine S.skip hf rfl rfl rfl (fun a hf => ?_)
              refine S.skip hf rfl rfl rfl (fun a hf => ?_)
              refine S.skip hf rfl rfl rfl (fun a hf => ?_)
              refine S.skip hf rfl rfl rfl (fun a hf => ?_)
              refine S.skip hf rfl rfl rfl (fun a hf => ?_)
              refine S.skip hf rfl rfl rfl (fun a hf => ?_)
              refine S.skip hf rfl rfl rfl (fun a hf => ?_)
              refine S.skip hf rfl rfl rfl (fun a hf => ?_)
              refine S.skip hf rfl rfl rfl (fun a hf => ?_)
              refine S.val hf hs (v := .bool false) rfl rfl rfl (V.pure rfl) (fun a hf => ?_)
              refine S.val hf hs (v := .bool false) rfl rfl rfl (V.pure rfl) (fun a hf => ?_)
              refine S.skip hf rfl rfl rfl (fun a hf => ?_)
              refine S.val hf hs (v := .bool false) rfl rfl rfl (V.pure rfl) (fun a hf => ?_)
              refine S.val hf hs (v := .bool false) rfl rfl rfl (V.pure rfl) (fun a hf => ?_)
              refine R.nil ?_
              refine X.then_ ?_
              refine wp_ret ?_
              exact L.ret hf (run_results1 Try.results9 (ResIs.tmp hf rfl)) ⟨false, rfl, h, hs.nil⟩
          · replace h := h.2 hc
            refine S.skip hf rfl rfl rfl (fun a hf => ?_)
            refine S.skip hf rfl rfl rfl (fun a hf => ?_)
            refine S.skip hf rfl rfl rfl (fun a hf => ?_)
            refine S.skip hf rfl rfl rfl (fun a hf => ?_)
            refine S.skip hf rfl rfl rfl (fun a hf => ?_)
            refine S.skip hf rfl rfl rfl (fun a hf => ?_)
            refine S.skip hf rfl rfl rfl (fun a hf => ?_)
            refine S.skip hf rfl rfl rfl (fun a hf => ?_)
            refine S.val hf hs (v := .bool false) rfl rfl rfl (V.pure rfl) (fun a hf => ?_)
            refine S.val hf hs (v := .bool false) rfl rfl rfl (V.pure rfl) (fun a hf => ?_)
            refine S.skip hf rfl rfl rfl (fun a hf => ?_)
            refine S.skip hf rfl rfl rfl (fun a hf => ?_)
            refine S.skip hf rfl rfl rfl (fun a hf => ?_)
            refine S.skip hf rfl rfl rfl (fun a hf => ?_)
            refine S.skip hf rfl rfl rfl (fun a hf => ?_)
            refine S.skip hf rfl rfl rfl (fun a hf => ?_)
            refine S.skip hf rfl rfl rfl (fun a hf => ?_)
            refine S.skip hf rfl rfl rfl (fun a hf => ?_)
            refine S.skip hf rfl rfl rfl (fun a hf => ?_)
            refine S.skip hf rfl rfl rfl (fun a hf => ?_)
            refine S.val hf hs (v := .bool false) rfl rfl rfl (V.pure rfl) (fun a hf => ?_)
            refine S.val hf hs (v := .bool false) rfl rfl rfl (V.pure rfl) (fun a hf => ?_)
            refine S.skip hf rfl rfl rfl (fun a hf => ?_)
            refine S.val hf hs (v := .bool false) rfl rfl rfl (V.pure rfl) (fun a hf => ?_)
            refine S.val hf hs (v := .bool false) rfl rfl rfl (V.pure rfl) (fun a hf => ?_)
            refine R.nil ?_
            refine X.then_ ?_
            refine wp_ret ?_
            exact L.ret hf (run_results1 Try.results9 (ResIs.tmp hf rfl)) ⟨false, rfl, h, hs.nil⟩
        · replace h := h.2 hc
          refine S.skip hf rfl rfl rfl (fun a hf => ?_)
          refine S.skip hf rfl rfl rfl (fun a hf => ?_)
          refine S.skip hf rfl rfl rfl (fun a hf => ?_)
          refine S.val hf hs (v := .bool false) rfl rfl rfl (V.pure rfl) (fun a hf => ?_)
          refine S.val hf hs (v := .bool false) rfl rfl rfl (V.pure rfl) (fun a hf => ?_)
          refine S.skip hf rfl rfl rfl (fun a hf => ?_)
          refine S.skip hf rfl rfl rfl (fun a hf => ?_)
          refine S.skip hf rfl rfl rfl (fun a hf => ?_)
          refine S.skip hf rfl rfl rfl (fun a hf => ?_)
          refine S.skip hf rfl rfl rfl (fun a hf => ?_)
          refine S.skip hf rfl rfl rfl (fun a hf => ?_)
          refine S.skip hf rfl rfl rfl (fun a hf => ?_)
          refine S.skip hf rfl rfl rfl (fun a hf => ?_)
          refine S.val hf hs (v := .bool false) rfl rfl rfl (V.pure rfl) (fun a hf => ?_)
          refine S.val hf hs (v := .bool false) rfl rfl rfl (V.pure rfl) (fun a hf => ?_)
          refine S.skip hf rfl rfl rfl (fun a hf => ?_)
          refine S.skip hf rfl rfl rfl (fun a hf => ?_)
          refine S.skip hf rfl rfl rfl (fun a hf => ?_)
          refine S.skip hf rfl rfl rfl (fun a hf => ?_)
          refine S.skip hf rfl rfl rfl (fun a hf => ?_)
          refine S.skip hf rfl rfl rfl (fun a hf => ?_)
          refine S.skip hf rfl rfl rfl (fun a hf => ?_)
          refine S.skip hf rfl rfl rfl (fun a hf => ?_)
          refine S.skip hf rfl rfl rfl (fun a hf => ?_)
          refine S.skip hf rfl rfl rfl (fun a hf => ?_)
          refine S.val hf hs (v := .bool false) rfl rfl rfl (V.pure rfl) (fun a hf => ?_)
          refine S.val hf hs (v := .bool false) rfl rfl rfl (V.pure rfl) (fun a hf => ?_)
          refine S.skip hf rfl rfl rfl (fun a hf => ?_)
          refine S.val hf hs (v := .bool false) rfl rfl rfl (V.pure rfl) (fun a hf => ?_)
          refine S.val hf hs (v := .bool false) rfl rfl rfl (V.pure rfl) (fun a hf => ?_)
          refine R.nil ?_
          refine X.then_ ?_
          refine wp_ret ?_
          exact L.ret hf (run_results1 Try.results9 (ResIs.tmp hf rfl)) ⟨false, rfl, h, hs.nil⟩
      | cons xk2 llk2 =>
        have hltk2 := range_lt hkk2; have hc := range_go hkk2; have hxk2 := range_get hlk2
        obtain ⟨next2, hnext2⟩ : ∃ X : Prop, X = (forIn' (fun k x (s : Unit) next => M_law_BuildUp_L2 Q k x (next ())) (fun (s : Unit) => M_stack_Cycles m s_ l fun y4 y5 => cnd (y5 == 0) (cnd (decide ((y1.length : Int) > 0)) (idx y1 (w64 ((y1.length : Int) - 1)) fun x1 => cnd (x1.From == 1) (cnd (x1.To == (y4.length : Int)) (M_awake  fun y6 => Q y6) (Q false)) (Q false)) (Q false)) (Q false)) llk2 (k2 + 1) ()) := ⟨_, rfl⟩
        replace h : M_law_BuildUp_L2 Q k2 xk2  next2 := by rw [hnext2]; exact h
        unfold M_law_BuildUp_L2 at h
        refine wp_seq ?_
        refine R.list ?_
        refine S.val hf hs (v := .bool true) rfl rfl rfl (V.cmp true rfl rfl rfl rfl hc) (fun a hf => ?_)
        refine R.nil ?_
        refine X.then_ ?_
        refine wp_seq ?_
        refine C.yes hf rfl ?_
        refine wp_skip ?_
        refine X.then_ ?_
        refine wp_seq ?_
        refine wp_block ?_
        refine wp_seq ?_
        refine R.list ?_
        refine S.val hf hs (v := elemPtr l2A (k2 * 1)) rfl rfl rfl (V.index rfl rfl rfl Try.runUnderlying43 Try.sizeOf3 (hs.ownSome 0 rfl (lt_of_get hxk2)) (Int.natCast_nonneg _) (lt_of_get hxk2) rfl) (fun a hf => ?_)
        refine S.val hf hs (v := .int .i64 xk2) rfl rfl rfl (V.loadOwn (off := 0) 0 rfl hxk2 rfl rfl rfl Try.isAgg3 Try.sizeOf3 rfl rfl) (fun a hf => ?_)
        refine S.val hf hs (v := .int .i64 xk2) rfl rfl rfl (V.pure rfl) (fun a hf => ?_)
        refine R.nil ?_
        refine X.then_ ?_
        refine wp_seq ?_
        refine R.list ?_
        refine S.val hf hs (v := .int .i64 xk2) rfl rfl rfl (V.pure rfl) (fun a hf => ?_)
        refine S.val hf hs (v := .bool (xk2 != 1)) rfl rfl rfl (V.pure rfl) (fun a hf => ?_)
        refine R.nil ?_
        refine X.then_ ?_
        refine C.cond hf (b := xk2 != 1) rfl (fun hc => ?_) (fun hc => ?_)
        · replace h := h.1 hc
          refine wp_seq ?_
          refine R.list ?_
          refine S.val hf hs (v := .bool false) rfl rfl rfl (V.pure rfl) (fun a hf => ?_)
          refine R.nil ?_
          refine X.then_ ?_
          refine wp_ret ?_
          refine X.blk_ret ?_
          refine X.then_ret ?_
          refine X.then_ret ?_
          refine X.blk_ret ?_
          refine X.then_ret ?_
          exact L.ret hf (run_results1 Try.results9 (ResIs.tmp hf rfl)) ⟨false, rfl, h, hs.nil⟩
        · replace h := h.2 hc
          refine wp_skip ?_
          refine X.blk ?_
          refine X.then_ ?_
          refine R.list ?_
          refine S.val hf hs (v := .int .i64 ((k2 + 1 : Nat) : Int)) rfl rfl rfl (V.incr rfl rfl rfl hltk2 hlenk2) (fun a hf => ?_)
          refine S.val hf hs (v := .int .i64 ((k2 + 1 : Nat) : Int)) rfl rfl rfl (V.pure rfl) (fun a hf => ?_)
          refine R.nil ?_
          refine X.then_ ?_
          exact ⟨xk2, llk2, rfl, k2 + 1, range_drop hlk2, range_len hkk2, (by rw [hnext2] at h; exact h), (((((((hf.nil.cons (hf.get 101 _ rfl)).cons (hf.get 100 _ rfl)).cons (hf.get 7 _ rfl)).cons (hf.get 2 _ rfl)).cons (hf.get 1 _ rfl)).cons (hf.get 0 _ rfl)).cons (hf.get 102 _ rfl)), hs⟩
    | cons xk1 llk1 =>
      have hltk1 := range_lt hkk1; have hc := range_go hkk1; have hxk1 := range_get hlk1
      obtain ⟨next1, hnext1⟩ : ∃ X : List Int → Prop, X = (fun l2 => forIn' (fun k x (s : List Int) next => M_law_BuildUp_L1 l Q y1 k x s (fun l2 => next l2)) (fun (s : List Int) => (fun (l2 : List Int) => forIn' (fun k x (s : Unit) next => M_law_BuildUp_L2 Q k x (next ())) (fun (s : Unit) => M_stack_Cycles m s_ l fun y4 y5 => cnd (y5 == 0) (cnd (decide ((y1.length : Int) > 0)) (idx y1 (w64 ((y1.length : Int) - 1)) fun x1 => cnd (x1.From == 1) (cnd (x1.To == (y4.length : Int)) (M_awake  fun y6 => Q y6) (Q false)) (Q false)) (Q false)) (Q false)) l2 0 ()) s) llk1 (k1 + 1) l2) := ⟨_, rfl⟩
      replace h : M_law_BuildUp_L1 l Q y1 k1 xk1 l2 next1 := by rw [hnext1]; exact h
      unfold M_law_BuildUp_L1 at h
      refine wp_seq ?_
      refine R.list ?_
      refine S.val hf hs (v := .bool true) rfl rfl rfl (V.cmp true rfl rfl rfl rfl hc) (fun a hf => ?_)
      refine R.nil ?_
      refine X.then_ ?_
      refine wp_seq ?_
      refine C.yes hf rfl ?_
      refine wp_skip ?_
      refine X.then_ ?_
      refine wp_seq ?_
      refine wp_block ?_
      refine wp_seq ?_
      refine R.list ?_
      refine S.val hf hs (v := .int .i64 (k1 : Int)) rfl rfl rfl (V.pure rfl) (fun a hf => ?_)
      refine S.val hf hs (v := elemPtr y1A (k1 * 4)) rfl rfl rfl (V.index rfl rfl rfl Try.runUnderlying53 Try.sizeOf57 (hs.rowsSome 1 rfl hxk1) (Int.natCast_nonneg _) (lt_of_get hxk1) rfl) (fun a hf => ?_)
      obtain ⟨B2, D2, hrB2⟩ := hs.rowAt 1 rfl hxk1
      refine S.val hf hs (v := .agg #[.int .i64 xk1.From, .int .i64 xk1.To, .bool xk1.Core, .slice B2 xk1.Holes.length D2]) rfl rfl rfl (V.loadRows (off := 0) 1 rfl hxk1 hrB2 rfl rfl rfl Try.isAgg57 Try.sizeOf57 rfl rfl) (fun a hf => ?_)
      refine S.alloc hf hs rfl rfl rfl [.int .i64 0, .int .i64 0, .bool false, .slice none 0 0] rfl Try.zeroValue57 rfl (fun g1 a w hf hs => ?_)
      refine S.val hf hs (v := .int .i64 (k1 : Int)) rfl rfl rfl (V.pure rfl) (fun a hf => ?_)
      refine S.storeBox 0 hf hs rfl rfl [.int .i64 xk1.From, .int .i64 xk1.To, .bool xk1.Core, .slice B2 xk1.Holes.length D2] [.int .i64 xk1.From, .int .i64 xk1.To, .bool xk1.Core, .slice B2 xk1.Holes.length D2] rfl rfl rfl rfl rfl Try.sizeOf57 rfl rfl rfl rfl (fun a w hf hs => ?_)
      refine R.nil ?_
      refine X.then_ ?_
      refine wp_seq ?_
      refine wp_seq ?_
      refine R.list ?_
      refine S.val hf hs (v := .pointer (some ⟨g1, 3, none⟩)) rfl rfl rfl (V.fieldBox rfl rfl Try.runUnderlying57 rfl Try.sizeOf43 rfl rfl) (fun a hf => ?_)
      refine S.val hf hs (v := .slice B2 xk1.Holes.length D2) rfl rfl rfl (V.loadBox 0 rfl rfl rfl Try.isAgg43 Try.sizeOf43 rfl rfl) (fun a hf => ?_)
      refine S.val hf hs (v := .int .i64 (xk1.Holes.length : Int)) rfl rfl rfl (V.len rfl rfl Try.runUnderlying43) (fun a hf => ?_)
      refine S.val hf hs (v := .int .i64 0) rfl rfl rfl (V.pure rfl) (fun a hf => ?_)
      refine R.nil ?_
      refine X.then_ ?_
      refine wp_block ?_
      have hlenk3 := (hs.rowView 2 rfl hxk1 hrB2).len64
      refine C.range (fun (ll : List Int) a w => ∃ (k3 : Nat) (l4 : List Int) (l4A : Option Addr) (l4C : Nat), xk1.Holes.drop k3 = ll ∧ k3 + ll.length = xk1.Holes.length ∧ forIn' (fun k x (s : List Int) next => M_law_BuildUp_L3 l Q xk1 k x s (fun l4 => next l4)) (fun (s : List Int) => (fun (l4 : List Int) => must (0 ≤ (k1 : Int) ∧ (k1 : Int) ≤ (y1.length : Int)) (forIn' (fun k x (s : Unit) next => M_law_BuildUp_L4 Q xk1 k x (next ())) (fun (s : Unit) => next1 l4) (y1.take (k1 : Int).toNat) 0 ())) s) ll k3 l4 ∧ FrOk 148 [(47, .int .i64 (k3 : Int)), (0, .slice mA m.length mC), (1, .slice s_A s_.length s_C), (2, .slice lA l.length lC), (7, .slice y1A y1.length y1C), (9, .slice l4A l4.length l4C), (10, .int .i64 (k1 : Int)), (11, .pointer (some ⟨g1, 0, none⟩)), (37, .slice y1A y1.length y1C), (38, .int .i64 (y1.length : Int)), (39, .int .i64 (k1 : Int)), (45, .slice B2 xk1.Holes.length D2), (46, .int .i64 (xk1.Holes.length : Int))] a ∧ Sat w0 none_ [hbox g1 57 [.int .i64 xk1.From, .int .i64 xk1.To, .bool xk1.Core, .slice B2 xk1.Holes.length D2], hown 3 l4A l4C l4, hrows 57 3 y1A y1C y1as y1] w) xk1.Holes ⟨0, l2, l2A, l2C, rfl, Nat.zero_add _, h, (((((((((((((hf.nil.cons (hf.get 46 _ rfl)).cons (hf.get 45 _ rfl)).cons (hf.get 39 _ rfl)).cons (hf.get 38 _ rfl)).cons (hf.get 37 _ rfl)).cons (hf.get 11 _ rfl)).cons (hf.get 10 _ rfl)).cons (hf.get 9 _ rfl)).cons (hf.get 7 _ rfl)).cons (hf.get 2 _ rfl)).cons (hf.get 1 _ rfl)).cons (hf.get 0 _ rfl)).cons (hf.get 47 _ rfl)), hs⟩ ?_
      clear h hf hs
      rintro llk3 a w ⟨k3, l4, l4A, l4C, hlk3, hkk3, h, hf, hs⟩
      cases llk3 with
      | nil =>
        have hc := range_done hkk3
        replace h : (fun (l4 : List Int) => must (0 ≤ (k1 : Int) ∧ (k1 : Int) ≤ (y1.length : Int)) (forIn' (fun k x (s : Unit) next => M_law_BuildUp_L4 Q xk1 k x (next ())) (fun (s : Unit) => next1 l4) (y1.take (k1 : Int).toNat) 0 ())) l4 := h
        refine wp_seq ?_
        refine R.list ?_
        refine S.val hf hs (v := .bool false) rfl rfl rfl (V.cmp false rfl rfl rfl rfl hc) (fun a hf => ?_)
        refine R.nil ?_
        refine X.then_ ?_
        refine wp_seq ?_
        refine C.no hf rfl ?_
        refine wp_exit ?_
        refine X.then_exit ?_
        refine X.then_exit ?_
        refine X.blk_exit ?_
        refine X.then_ ?_
        refine wp_seq ?_
        refine R.list ?_
        refine S.val hf hs (v := .slice y1A y1.length y1C) rfl rfl rfl (V.pure rfl) (fun a hf => ?_)
        refine S.val hf hs (v := .int .i64 (k1 : Int)) rfl rfl rfl (V.pure rfl) (fun a hf => ?_)
        obtain ⟨hp1, h⟩ := h
        refine S.val hf hs (v := .slice y1A (y1.take (k1 : Int).toNat).length y1C) rfl rfl rfl (V.slicePre (xs := y1) rfl rfl rfl rfl Try.runUnderlying53 Try.sizeOf57 rfl hp1 (hs.rowsView 2 rfl).cap) (fun a hf => ?_)
        refine S.val hf hs (v := .int .i64 ((y1.take (k1 : Int).toNat).length : Int)) rfl rfl rfl (V.len rfl rfl Try.runUnderlying53) (fun a hf => ?_)
        refine S.val hf hs (v := .int .i64 0) rfl rfl rfl (V.pure rfl) (fun a hf => ?_)
        refine R.nil ?_
        refine X.then_ ?_
        refine wp_block ?_
        have hlenk4 := (View.take (hs.rowsView 2 rfl) (k1 : Int).toNat).len64
        refine C.range (fun (ll : List Press) a w => ∃ (k4 : Nat) , (y1.take (k1 : Int).toNat).drop k4 = ll ∧ k4 + ll.length = (y1.take (k1 : Int).toNat).length ∧ forIn' (fun k x (s : Unit) next => M_law_BuildUp_L4 Q xk1 k x (next ())) (fun (s : Unit) => next1 l4) ll k4 () ∧ FrOk 148 [(82, .int .i64 (k4 : Int)), (0, .slice mA m.length mC), (1, .slice s_A s_.length s_C), (2, .slice lA l.length lC), (7, .slice y1A y1.length y1C), (9, .slice l4A l4.length l4C), (11, .pointer (some ⟨g1, 0, none⟩)), (37, .slice y1A y1.length y1C), (38, .int .i64 (y1.length : Int)), (39, .int .i64 (k1 : Int)), (80, .slice y1A (y1.take (k1 : Int).toNat).length y1C), (81, .int .i64 ((y1.take (k1 : Int).toNat).length : Int))] a ∧ Sat w0 none_ [hbox g1 57 [.int .i64 xk1.From, .int .i64 xk1.To, .bool xk1.Core, .slice B2 xk1.Holes.length D2], hown 3 l4A l4C l4, hrows 57 3 y1A y1C y1as y1] w) (y1.take (k1 : Int).toNat) ⟨0, rfl, Nat.zero_add _, h, ((((((((((((hf.nil.cons (hf.get 81 _ rfl)).cons (hf.get 80 _ rfl)).cons (hf.get 39 _ rfl)).cons (hf.get 38 _ rfl)).cons (hf.get 37 _ rfl)).cons (hf.get 11 _ rfl)).cons (hf.get 9 _ rfl)).cons (hf.get 7 _ rfl)).cons (hf.get 2 _ rfl)).cons (hf.get 1 _ rfl)).cons (hf.get 0 _ rfl)).cons (hf.get 82 _ rfl)), hs⟩ ?_
        clear h hf hs
        rintro llk4 a w ⟨k4, hlk4, hkk4, h, hf, hs⟩
        cases llk4 with
        | nil =>
          have hc := range_done hkk4
          replace h : next1 l4 := h
          refine wp_seq ?_
          refine R.list ?_
          refine S.val hf hs (v := .bool false) rfl rfl rfl (V.cmp false rfl rfl rfl rfl hc) (fun a hf => ?_)
          refine R.nil ?_
          refine X.then_ ?_
          refine wp_seq ?_
          refine C.no hf rfl ?_
          refine wp_exit ?_
          refine X.then_exit ?_
          refine X.then_exit ?_
          refine X.blk_exit ?_
          refine X.blk ?_
          refine X.then_ ?_
          refine R.list ?_
          refine S.val hf hs (v := .int .i64 ((k1 + 1 : Nat) : Int)) rfl rfl rfl (V.incr rfl rfl rfl hltk1 hlenk1) (fun a hf => ?_)
          refine S.val hf hs (v := .int .i64 ((k1 + 1 : Nat) : Int)) rfl rfl rfl (V.pure rfl) (fun a hf => ?_)
          refine R.nil ?_
          refine X.then_ ?_
          exact ⟨xk1, llk1, rfl, k1 + 1, l4, l4A, l4C, range_drop hlk1, range_len hkk1, (by rw [hnext1] at h; exact h), ((((((((hf.nil.cons (hf.get 38 _ rfl)).cons (hf.get 37 _ rfl)).cons (hf.get 9 _ rfl)).cons (hf.get 7 _ rfl)).cons (hf.get 2 _ rfl)).cons (hf.get 1 _ rfl)).cons (hf.get 0 _ rfl)).cons (hf.get 39 _ rfl)), hs.drop⟩
        | cons xk4 llk4 =>
          have hltk4 := range_lt hkk4; have hc := range_go hkk4; have hxk4 := range_get hlk4
          obtain ⟨next4, hnext4⟩ : ∃ X : Prop, X = (forIn' (fun k x (s : Unit) next => M_law_BuildUp_L4 Q xk1 k x (next ())) (fun (s : Unit) => next1 l4) llk4 (k4 + 1) ()) := ⟨_, rfl⟩
          replace h : M_law_BuildUp_L4 Q xk1 k4 xk4  next4 := by rw [hnext4]; exact h
          unfold M_law_BuildUp_L4 at h
          refine wp_seq ?_
          refine R.list ?_
          refine S.val hf hs (v := .bool true) rfl rfl rfl (V.cmp true rfl rfl rfl rfl hc) (fun a hf => ?_)
          refine R.nil ?_
          refine X.then_ ?_
          refine wp_seq ?_
          refine C.yes hf rfl ?_
          refine wp_skip ?_
          refine X.then_ ?_
          refine wp_seq ?_
          refine wp_block ?_
          refine wp_seq ?_
          refine R.list ?_
          have hx1 := take_get hxk4
          refine S.val hf hs (v := elemPtr y1A (k4 * 4)) rfl rfl rfl (V.index rfl rfl rfl Try.runUnderlying53 Try.sizeOf57 (hs.rowsSome 2 rfl hx1) (Int.natCast_nonneg _) (lt_of_get hxk4) rfl) (fun a hf => ?_)
          obtain ⟨B3, D3, hrB3⟩ := hs.rowAt 2 rfl hx1
          refine S.val hf hs (v := .agg #[.int .i64 xk4.From, .int .i64 xk4.To, .bool xk4.Core, .slice B3 xk4.Holes.length D3]) rfl rfl rfl (V.loadRows (off := 0) 2 rfl hx1 hrB3 rfl rfl rfl Try.isAgg57 Try.sizeOf57 rfl rfl) (fun a hf => ?_)
          refine S.alloc hf hs rfl rfl rfl [.int .i64 0, .int .i64 0, .bool false, .slice none 0 0] rfl Try.zeroValue57 rfl (fun g2 a w hf hs => ?_)
          refine S.storeBox 0 hf hs rfl rfl [.int .i64 xk4.From, .int .i64 xk4.To, .bool xk4.Core, .slice B3 xk4.Holes.length D3] [.int .i64 xk4.From, .int .i64 xk4.To, .bool xk4.Core, .slice B3 xk4.Holes.length D3] rfl rfl rfl rfl rfl Try.sizeOf57 rfl rfl rfl rfl (fun a w hf hs => ?_)
          refine R.nil ?_
          refine X.then_ ?_
          refine wp_seq ?_
          refine C.cut (J := fun a w => ∃ (c1 : Bool), M_law_BuildUp_k5 Q next4 c1 ∧ FrOk 148 [(0, .slice mA m.length mC), (1, .slice s_A s_.length s_C), (2, .slice lA l.length lC), (7, .slice y1A y1.length y1C), (9, .slice l4A l4.length l4C), (11, .pointer (some ⟨g1, 0, none⟩)), (37, .slice y1A y1.length y1C), (38, .int .i64 (y1.length : Int)), (39, .int .i64 (k1 : Int)), (80, .slice y1A (y1.take (k1 : Int).toNat).length y1C), (81, .int .i64 ((y1.take (k1 : Int).toNat).length : Int)), (82, .int .i64 (k4 : Int)), (97, .bool c1)] a ∧ Sat w0 none_ [hbox g2 57 [.int .i64 xk4.From, .int .i64 xk4.To, .bool xk4.Core, .slice B3 xk4.Holes.length D3], hbox g1 57 [.int .i64 xk1.From, .int .i64 xk1.To, .bool xk1.Core, .slice B2 xk1.Holes.length D2], hown 3 l4A l4C l4, hrows 57 3 y1A y1C y1as y1] w) ?_ ?_
          · rintro a w ⟨c1, h, hf, hs⟩
            unfold M_law_BuildUp_k5 at h
            refine C.cond hf (b := c1) rfl (fun hc => ?_) (fun hc => ?_)
            · replace h := h.1 hc
              refine wp_seq ?_
              refine R.list ?_
              refine S.val hf hs (v := .bool false) rfl rfl rfl (V.pure rfl) (fun a hf => ?_)
              refine R.nil ?_
              refine X.then_ ?_
              refine wp_ret ?_
              refine X.blk_ret ?_
              refine X.then_ret ?_
              refine X.then_ret ?_
              refine X.blk_ret ?_
              refine X.blk_ret ?_
              refine X.then_ret ?_
              refine X.then_ret ?_
              refine X.blk_ret ?_
              refine X.then_ret ?_
              exact L.ret hf (run_results1 Try.results9 (ResIs.tmp hf rfl)) ⟨false, rfl, h, hs.nil⟩
            · replace h := h.2 hc
              refine wp_skip ?_
              refine X.blk ?_
              refine X.then_ ?_
              refine R.list ?_
              refine S.val hf hs (v := .int .i64 ((k4 + 1 : Nat) : Int)) rfl rfl rfl (V.incr rfl rfl rfl hltk4 hlenk4) (fun a hf => ?_)
              refine S.val hf hs (v := .int .i64 ((k4 + 1 : Nat) : Int)) rfl rfl rfl (V.pure rfl) (fun a hf => ?_)
              refine R.nil ?_
              refine X.then_ ?_
              exact ⟨xk4, llk4, rfl, k4 + 1, range_drop hlk4, range_len hkk4, (by rw [hnext4] at h; exact h), ((((((((((((hf.nil.cons (hf.get 81 _ rfl)).cons (hf.get 80 _ rfl)).cons (hf.get 39 _ rfl)).cons (hf.get 38 _ rfl)).cons (hf.get 37 _ rfl)).cons (hf.get 11 _ rfl)).cons (hf.get 9 _ rfl)).cons (hf.get 7 _ rfl)).cons (hf.get 2 _ rfl)).cons (hf.get 1 _ rfl)).cons (hf.get 0 _ rfl)).cons (hf.get 82 _ rfl)), hs.drop⟩
          · skip
            refine R.list ?_
            refine S.val hf hs (v := .pointer (some ⟨g2, 0, none⟩)) rfl rfl rfl (V.fieldBox rfl rfl Try.runUnderlying57 rfl Try.sizeOf3 rfl rfl) (fun a hf => ?_)
            refine S.val hf hs (v := .int .i64 xk4.From) rfl rfl rfl (V.loadBox 0 rfl rfl rfl Try.isAgg3 Try.sizeOf3 rfl rfl) (fun a hf => ?_)
            refine S.val hf hs (v := .pointer (some ⟨g1, 0, none⟩)) rfl rfl rfl (V.fieldBox rfl rfl Try.runUnderlying57 rfl Try.sizeOf3 rfl rfl) (fun a hf => ?_)
            refine S.val hf hs (v := .int .i64 xk1.From) rfl rfl rfl (V.loadBox 1 rfl rfl rfl Try.isAgg3 Try.sizeOf3 rfl rfl) (fun a hf => ?_)
            refine S.val hf hs (v := .bool (decide (xk4.From ≤ xk1.From))) rfl rfl rfl (V.pure rfl) (fun a hf => ?_)
            refine S.split hf hs (b := decide (xk4.From ≤ xk1.From)) rfl rfl rfl (V.pure rfl) (fun hc a hf => ?_) (fun hc a hf => ?_)
            · replace h := h.1 hc
              refine S.val hf hs (v := .pointer (some ⟨g1, 1, none⟩)) rfl rfl rfl (V.fieldBox rfl rfl Try.runUnderlying57 rfl Try.sizeOf3 rfl rfl) (fun a hf => ?_)
              refine S.val hf hs (v := .int .i64 xk1.To) rfl rfl rfl (V.loadBox 1 rfl rfl rfl Try.isAgg3 Try.sizeOf3 rfl rfl) (fun a hf => ?_)
              refine S.val hf hs (v := .pointer (some ⟨g2, 1, none⟩)) rfl rfl rfl (V.fieldBox rfl rfl Try.runUnderlying57 rfl Try.sizeOf3 rfl rfl) (fun a hf => ?_)
              refine S.val hf hs (v := .int .i64 xk4.To) rfl rfl rfl (V.loadBox 0 rfl rfl rfl Try.isAgg3 Try.sizeOf3 rfl rfl) (fun a hf => ?_)
              refine S.val hf hs (v := .bool (decide (xk1.To ≤ xk4.To))) rfl rfl rfl (V.pure rfl) (fun a hf => ?_)
              refine S.val hf hs (v := .bool (decide (xk1.To ≤ xk4.To))) rfl rfl rfl (V.pure rfl) (fun a hf => ?_)
              refine R.nil ?_
              refine X.then_ ?_
              exact ⟨(decide (xk1.To ≤ xk4.To)), h, (((((((((((((hf.nil.cons (hf.get 97 _ rfl)).cons (hf.get 82 _ rfl)).cons (hf.get 81 _ rfl)).cons (hf.get 80 _ rfl)).cons (hf.get 39 _ rfl)).cons (hf.get 38 _ rfl)).cons (hf.get 37 _ rfl)).cons (hf.get 11 _ rfl)).cons (hf.get 9 _ rfl)).cons (hf.get 7 _ rfl)).cons (hf.get 2 _ rfl)).cons (hf.get 1 _ rfl)).cons (hf.get 0 _ rfl)), hs⟩
            · replace h := h.2 hc
              refine S.skip hf rfl rfl rfl (fun a hf => ?_)
              refine S.skip hf rfl rfl rfl (fun a hf => ?_)
              refine S.skip hf rfl rfl rfl (fun a hf => ?_)
              refine S.skip hf rfl rfl rfl (fun a hf => ?_)
              refine S.skip hf rfl rfl rfl (fun a hf => ?_)
              refine S.val hf hs (v := .bool false) rfl rfl rfl (V.pure rfl) (fun a hf => ?_)
              refine R.nil ?_
              refine X.then_ ?_
              exact ⟨false, h, (((((((((((((hf.nil.cons (hf.get 97 _ rfl)).cons (hf.get 82 _ rfl)).cons (hf.get 81 _ rfl)).cons (hf.get 80 _ rfl)).cons (hf.get 39 _ rfl)).cons (hf.get 38 _ rfl)).cons (hf.get 37 _ rfl)).cons (hf.get 11 _ rfl)).cons (hf.get 9 _ rfl)).cons (hf.get 7 _ rfl)).cons (hf.get 2 _ rfl)).cons (hf.get 1 _ rfl)).cons (hf.get 0 _ rfl)), hs⟩
      | cons xk3 llk3 =>
        have hltk3 := range_lt hkk3; have hc := range_go hkk3; have hxk3 := range_get hlk3
        obtain ⟨next3, hnext3⟩ : ∃ X : List Int → Prop, X = (fun l4 => forIn' (fun k x (s : List Int) next => M_law_BuildUp_L3 l Q xk1 k x s (fun l4 => next l4)) (fun (s : List Int) => (fun (l4 : List Int) => must (0 ≤ (k1 : Int) ∧ (k1 : Int) ≤ (y1.length : Int)) (forIn' (fun k x (s : Unit) next => M_law_BuildUp_L4 Q xk1 k x (next ())) (fun (s : Unit) => next1 l4) (y1.take (k1 : Int).toNat) 0 ())) s) llk3 (k3 + 1) l4) := ⟨_, rfl⟩
        replace h : M_law_BuildUp_L3 l Q xk1 k3 xk3 l4 next3 := by rw [hnext3]; exact h
        unfold M_law_BuildUp_L3 at h
        refine wp_seq ?_
        refine R.list ?_
        refine S.val hf hs (v := .bool true) rfl rfl rfl (V.cmp true rfl rfl rfl rfl hc) (fun a hf => ?_)
        refine R.nil ?_
        refine X.then_ ?_
        refine wp_seq ?_
        refine C.yes hf rfl ?_
        refine wp_skip ?_
        refine X.then_ ?_
        refine wp_seq ?_
        refine wp_block ?_
        refine wp_seq ?_
        refine R.list ?_
        refine S.val hf hs (v := elemPtr B2 (k3 * 1)) rfl rfl rfl (V.index rfl rfl rfl Try.runUnderlying43 Try.sizeOf3 ((hs.rowView 2 rfl hxk1 hrB2).some_ (lt_of_get hxk3)) (Int.natCast_nonneg _) (lt_of_get hxk3) rfl) (fun a hf => ?_)
        refine S.val hf hs (v := .int .i64 xk3) rfl rfl rfl (V.loadRowEl (off := 0) 2 rfl hxk1 hrB2 hxk3 rfl rfl rfl Try.isAgg3 Try.sizeOf3 rfl rfl) (fun a hf => ?_)
        refine S.val hf hs (v := .int .i64 xk3) rfl rfl rfl (V.pure rfl) (fun a hf => ?_)
        refine R.nil ?_
        refine X.then_ ?_
        refine wp_seq ?_
        refine wp_seq ?_
        refine C.cut (J := fun a w => ∃ (c2 : Bool), M_law_BuildUp_k6 Q xk3 l4 next3 c2 ∧ FrOk 148 [(0, .slice mA m.length mC), (1, .slice s_A s_.length s_C), (2, .slice lA l.length lC), (7, .slice y1A y1.length y1C), (9, .slice l4A l4.length l4C), (10, .int .i64 (k1 : Int)), (11, .pointer (some ⟨g1, 0, none⟩)), (13, .int .i64 xk3), (37, .slice y1A y1.length y1C), (38, .int .i64 (y1.length : Int)), (39, .int .i64 (k1 : Int)), (45, .slice B2 xk1.Holes.length D2), (46, .int .i64 (xk1.Holes.length : Int)), (47, .int .i64 (k3 : Int)), (70, .bool c2)] a ∧ Sat w0 none_ [hbox g1 57 [.int .i64 xk1.From, .int .i64 xk1.To, .bool xk1.Core, .slice B2 xk1.Holes.length D2], hown 3 l4A l4C l4, hrows 57 3 y1A y1C y1as y1] w) ?_ ?_
        · rintro a w ⟨c2, h, hf, hs⟩
          unfold M_law_BuildUp_k6 at h
          refine C.cond hf (b := c2) rfl (fun hc => ?_) (fun hc => ?_)
          · replace h := h.1 hc
            refine wp_seq ?_
            refine R.list ?_
            refine S.val hf hs (v := .bool false) rfl rfl rfl (V.pure rfl) (fun a hf => ?_)
            refine R.nil ?_
            refine X.then_ ?_
            refine wp_ret ?_
            refine X.then_ret ?_
            refine X.blk_ret ?_
            refine X.then_ret ?_
            refine X.then_ret ?_
            refine X.blk_ret ?_
            refine X.then_ret ?_
            refine X.blk_ret ?_
            refine X.then_ret ?_
            refine X.then_ret ?_
            refine X.blk_ret ?_
            refine X.then_ret ?_
            exact L.ret hf (run_results1 Try.results9 (ResIs.tmp hf rfl)) ⟨false, rfl, h, hs.nil⟩
          · replace h := h.2 hc
            refine wp_skip ?_
            refine X.then_ ?_
            refine R.list ?_
            refine S.val hf hs (v := .slice l4A l4.length l4C) rfl rfl rfl (V.pure rfl) (fun a hf => ?_)
            refine S.val hf hs (v := .int .i64 xk3) rfl rfl rfl (V.pure rfl) (fun a hf => ?_)
            obtain ⟨h0x2, x2, hx2, h⟩ := h
            refine S.val hf hs (v := elemPtr l4A (xk3.toNat * 1)) rfl rfl rfl (V.index rfl rfl rfl Try.runUnderlying43 Try.sizeOf3 (hs.ownSome 1 rfl (lt_of_get hx2)) h0x2 (lt_of_get hx2) rfl) (fun a hf => ?_)
            refine S.val hf hs (v := .int .i64 x2) rfl rfl rfl (V.loadOwn (off := 0) 1 rfl hx2 rfl rfl rfl Try.isAgg3 Try.sizeOf3 rfl rfl) (fun a hf => ?_)
            refine S.val hf hs (v := .int .i64 (w64 (x2 + 1))) rfl rfl rfl (V.pure rfl) (fun a hf => ?_)
            refine S.val hf hs (v := elemPtr l4A (xk3.toNat * 1)) rfl rfl rfl (V.index rfl rfl rfl Try.runUnderlying43 Try.sizeOf3 (hs.ownSome 1 rfl (lt_of_get hx2)) h0x2 (lt_of_get hx2) rfl) (fun a hf => ?_)
            refine S.storeOwn (off := 0) 1 hf hs rfl rfl (w64 (x2 + 1)) [.int .i64 (w64 (x2 + 1))] rfl hx2 rfl rfl rfl rfl rfl Try.sizeOf3 rfl (by decide) rfl rfl (fun a w hf hs => ?_)
            replace hf := hf.tell 9 (v := .slice l4A (l4.set xk3.toNat (w64 (x2 + 1))).length l4C) ((hf.get 9 (.slice l4A l4.length l4C) rfl).trans (congrArg (fun n => Value.slice l4A n l4C) List.length_set.symm))
            replace hf := hf.tell 71 (v := .slice l4A (l4.set xk3.toNat (w64 (x2 + 1))).length l4C) ((hf.get 71 (.slice l4A l4.length l4C) rfl).trans (congrArg (fun n => Value.slice l4A n l4C) List.length_set.symm))
            refine R.nil ?_
            refine X.blk ?_
            refine X.then_ ?_
            refine R.list ?_
            refine S.val hf hs (v := .int .i64 ((k3 + 1 : Nat) : Int)) rfl rfl rfl (V.incr rfl rfl rfl hltk3 hlenk3) (fun a hf => ?_)
            refine S.val hf hs (v := .int .i64 ((k3 + 1 : Nat) : Int)) rfl rfl rfl (V.pure rfl) (fun a hf => ?_)
            refine R.nil ?_
            refine X.then_ ?_
            exact ⟨xk3, llk3, rfl, k3 + 1, (l4.set xk3.toNat (w64 (x2 + 1))), l4A, l4C, range_drop hlk3, range_len hkk3, (by rw [hnext3] at h; exact h), (((((((((((((hf.nil.cons (hf.get 46 _ rfl)).cons (hf.get 45 _ rfl)).cons (hf.get 39 _ rfl)).cons (hf.get 38 _ rfl)).cons (hf.get 37 _ rfl)).cons (hf.get 11 _ rfl)).cons (hf.get 10 _ rfl)).cons (hf.get 9 _ rfl)).cons (hf.get 7 _ rfl)).cons (hf.get 2 _ rfl)).cons (hf.get 1 _ rfl)).cons (hf.get 0 _ rfl)).cons (hf.get 47 _ rfl)), hs⟩
        · skip
          refine H.start (S := Sat w0 none_ [hbox g1 57 [.int .i64 xk1.From, .int .i64 xk1.To, .bool xk1.Core, .slice B2 xk1.Holes.length D2], hown 3 l4A l4C l4, hrows 57 3 y1A y1C y1as y1]) mo ?_
          replace hs := hs.drew
          refine H.val hf hs (v := .int .i64 xk3) (i := 0) rfl rfl rfl rfl (by kernel_rfl) (by kernel_rfl) (by kernel_rfl) (V.pure rfl) (fun a hf => ?_)
          refine H.val hf hs (v := .bool (decide (xk3 < 0))) (i := 1) rfl rfl rfl rfl (by kernel_rfl) (by kernel_rfl) (by kernel_rfl) (V.pure rfl) (fun a hf => ?_)
          refine H.split hf hs (b := decide (xk3 < 0)) (i := 2) rfl rfl rfl rfl (by kernel_rfl) (by kernel_rfl) (by kernel_rfl) (V.pure rfl) (fun hc a hf => ?_) (fun hc a hf => ?_)
          · replace h := h.1 hc
            refine H.skip hf hs (i := 3) rfl rfl rfl rfl (by kernel_rfl) (by kernel_rfl) (by kernel_rfl) (fun a hf => ?_)
            refine H.skip hf hs (i := 4) rfl rfl rfl rfl (by kernel_rfl) (by kernel_rfl) (by kernel_rfl) (fun a hf => ?_)
            refine H.skip hf hs (i := 5) rfl rfl rfl rfl (by kernel_rfl) (by kernel_rfl) (by kernel_rfl) (fun a hf => ?_)
            refine H.skip hf hs (i := 6) rfl rfl rfl rfl (by kernel_rfl) (by kernel_rfl) (by kernel_rfl) (fun a hf => ?_)
            refine H.val hf hs (v := .bool true) (i := 7) rfl rfl rfl rfl (by kernel_rfl) (by kernel_rfl) (by kernel_rfl) (V.pure rfl) (fun a hf => ?_)
            refine H.val hf hs (v := .bool true) (i := 8) rfl rfl rfl rfl (by kernel_rfl) (by kernel_rfl) (by kernel_rfl) (V.pure rfl) (fun a hf => ?_)
            refine H.skip hf hs (i := 9) rfl rfl rfl rfl (by kernel_rfl) (by kernel_rfl) (by kernel_rfl) (fun a hf => ?_)
            refine H.skip hf hs (i := 10) rfl rfl rfl rfl (by kernel_rfl) (by kernel_rfl) (by kernel_rfl) (fun a hf => ?_)
            refine H.skip hf hs (i := 11) rfl rfl rfl rfl (by kernel_rfl) (by kernel_rfl) (by kernel_rfl) (fun a hf => ?_)
            refine H.skip hf hs (i := 12) rfl rfl rfl rfl (by kernel_rfl) (by kernel_rfl) (by kernel_rfl) (fun a hf => ?_)
            refine H.skip hf hs (i := 13) rfl rfl rfl rfl (by kernel_rfl) (by kernel_rfl) (by kernel_rfl) (fun a hf => ?_)
            refine H.skip hf hs (i := 14) rfl rfl rfl rfl (by kernel_rfl) (by kernel_rfl) (by kernel_rfl) (fun a hf => ?_)
            refine H.skip hf hs (i := 15) rfl rfl rfl rfl (by kernel_rfl) (by kernel_rfl) (by kernel_rfl) (fun a hf => ?_)
            refine H.skip hf hs (i := 16) rfl rfl rfl rfl (by kernel_rfl) (by kernel_rfl) (by kernel_rfl) (fun a hf => ?_)
            refine H.one (i := 17) rfl (by kernel_rfl) ?_
            refine S.skip hf rfl rfl rfl (fun a hf => ?_)
            refine R.nil ?_
            refine X.then_ ?_
            refine ⟨hs, ?_⟩
            refine H.skip hf hs (i := 18) rfl rfl rfl rfl (by kernel_rfl) (by kernel_rfl) (by kernel_rfl) (fun a hf => ?_)
            refine H.val hf hs (v := .bool true) (i := 19) rfl rfl rfl rfl (by kernel_rfl) (by kernel_rfl) (by kernel_rfl) (V.pure rfl) (fun a hf => ?_)
            refine H.done (by kernel_rfl) ?_
            refine X.then_ ?_
            exact ⟨true, h, (((((((((((((((hf.nil.cons (hf.get 70 _ rfl)).cons (hf.get 47 _ rfl)).cons (hf.get 46 _ rfl)).cons (hf.get 45 _ rfl)).cons (hf.get 39 _ rfl)).cons (hf.get 38 _ rfl)).cons (hf.get 37 _ rfl)).cons (hf.get 13 _ rfl)).cons (hf.get 11 _ rfl)).cons (hf.get 10 _ rfl)).cons (hf.get 9 _ rfl)).cons (hf.get 7 _ rfl)).cons (hf.get 2 _ rfl)).cons (hf.get 1 _ rfl)).cons (hf.get 0 _ rfl)), hs⟩
          · replace h := h.2 hc
            refine H.val hf hs (v := .int .i64 xk3) (i := 3) rfl rfl rfl rfl (by kernel_rfl) (by kernel_rfl) (by kernel_rfl) (V.pure rfl) (fun a hf => ?_)
            refine H.val hf hs (v := .slice lA l.length lC) (i := 4) rfl rfl rfl rfl (by kernel_rfl) (by kernel_rfl) (by kernel_rfl) (V.pure rfl) (fun a hf => ?_)
            refine H.val hf hs (v := .int .i64 (l.length : Int)) (i := 5) rfl rfl rfl rfl (by kernel_rfl) (by kernel_rfl) (by kernel_rfl) (V.len rfl rfl Try.runUnderlying52) (fun a hf => ?_)
            refine H.val hf hs (v := .bool (decide (xk3 ≥ (l.length : Int)))) (i := 6) rfl rfl rfl rfl (by kernel_rfl) (by kernel_rfl) (by kernel_rfl) (V.pure rfl) (fun a hf => ?_)
            refine H.val hf hs (v := .bool (decide (xk3 ≥ (l.length : Int)))) (i := 7) rfl rfl rfl rfl (by kernel_rfl) (by kernel_rfl) (by kernel_rfl) (V.pure rfl) (fun a hf => ?_)
            refine H.split hf hs (b := decide (xk3 ≥ (l.length : Int))) (i := 8) rfl rfl rfl rfl (by kernel_rfl) (by kernel_rfl) (by kernel_rfl) (V.pure rfl) (fun hc a hf => ?_) (fun hc a hf => ?_)
            · replace h := h.1 hc
              refine H.skip hf hs (i := 9) rfl rfl rfl rfl (by kernel_rfl) (by kernel_rfl) (by kernel_rfl) (fun a hf => ?_)
              refine H.skip hf hs (i := 10) rfl rfl rfl rfl (by kernel_rfl) (by kernel_rfl) (by kernel_rfl) (fun a hf => ?_)
              refine H.skip hf hs (i := 11) rfl rfl rfl rfl (by kernel_rfl) (by kernel_rfl) (by kernel_rfl) (fun a hf => ?_)
              refine H.skip hf hs (i := 12) rfl rfl rfl rfl (by kernel_rfl) (by kernel_rfl) (by kernel_rfl) (fun a hf => ?_)
              refine H.skip hf hs (i := 13) rfl rfl rfl rfl (by kernel_rfl) (by kernel_rfl) (by kernel_rfl) (fun a hf => ?_)
              refine H.skip hf hs (i := 14) rfl rfl rfl rfl (by kernel_rfl) (by kernel_rfl) (by kernel_rfl) (fun a hf => ?_)
              refine H.skip hf hs (i := 15) rfl rfl rfl rfl (by kernel_rfl) (by kernel_rfl) (by kernel_rfl) (fun a hf => ?_)
              refine H.skip hf hs (i := 16) rfl rfl rfl rfl (by kernel_rfl) (by kernel_rfl) (by kernel_rfl) (fun a hf => ?_)
              refine H.one (i := 17) rfl (by kernel_rfl) ?_
              refine S.skip hf rfl rfl rfl (fun a hf => ?_)
              refine R.nil ?_
              refine X.then_ ?_
              refine ⟨hs, ?_⟩
              refine H.skip hf hs (i := 18) rfl rfl rfl rfl (by kernel_rfl) (by kernel_rfl) (by kernel_rfl) (fun a hf => ?_)
              refine H.val hf hs (v := .bool true) (i := 19) rfl rfl rfl rfl (by kernel_rfl) (by kernel_rfl) (by kernel_rfl) (V.pure rfl) (fun a hf => ?_)
              refine H.done (by kernel_rfl) ?_
              refine X.then_ ?_
              exact ⟨true, h, (((((((((((((((hf.nil.cons (hf.get 70 _ rfl)).cons (hf.get 47 _ rfl)).cons (hf.get 46 _ rfl)).cons (hf.get 45 _ rfl)).cons (hf.get 39 _ rfl)).cons (hf.get 38 _ rfl)).cons (hf.get 37 _ rfl)).cons (hf.get 13 _ rfl)).cons (hf.get 11 _ rfl)).cons (hf.get 10 _ rfl)).cons (hf.get 9 _ rfl)).cons (hf.get 7 _ rfl)).cons (hf.get 2 _ rfl)).cons (hf.get 1 _ rfl)).cons (hf.get 0 _ rfl)), hs⟩
            · replace h := h.2 hc
              refine H.val hf hs (v := .slice lA l.length lC) (i := 9) rfl rfl rfl rfl (by kernel_rfl) (by kernel_rfl) (by kernel_rfl) (V.pure rfl) (fun a hf => ?_)
              refine H.val hf hs (v := .int .i64 xk3) (i := 10) rfl rfl rfl rfl (by kernel_rfl) (by kernel_rfl) (by kernel_rfl) (V.pure rfl) (fun a hf => ?_)
              obtain ⟨h0x3, x3, hx3, h⟩ := h
              refine H.val hf hs (v := elemPtr lA (xk3.toNat * 2)) (i := 11) rfl rfl rfl rfl (by kernel_rfl) (by kernel_rfl) (by kernel_rfl) (V.index rfl rfl rfl Try.runUnderlying52 Try.sizeOf59 (hv_l.some_ (lt_of_get hx3)) h0x3 (lt_of_get hx3) rfl) (fun a hf => ?_)
              refine H.val hf hs (v := .agg #[.int .i64 x3.From, .int .i64 x3.To]) (i := 12) rfl rfl rfl rfl (by kernel_rfl) (by kernel_rfl) (by kernel_rfl) (V.loadEl (off := 0) (Ag.args _ _ _) (hv_l.flat hx3) rfl rfl rfl Try.isAgg59 Try.sizeOf59 rfl rfl) (fun a hf => ?_)
              refine H.val hf hs (v := .pointer (some ⟨g1, 0, none⟩)) (i := 13) rfl rfl rfl rfl (by kernel_rfl) (by kernel_rfl) (by kernel_rfl) (V.fieldBox rfl rfl Try.runUnderlying57 rfl Try.sizeOf3 rfl rfl) (fun a hf => ?_)
              refine H.val hf hs (v := .int .i64 xk1.From) (i := 14) rfl rfl rfl rfl (by kernel_rfl) (by kernel_rfl) (by kernel_rfl) (V.loadBox 0 rfl rfl rfl Try.isAgg3 Try.sizeOf3 rfl rfl) (fun a hf => ?_)
              refine H.val hf hs (v := .pointer (some ⟨g1, 1, none⟩)) (i := 15) rfl rfl rfl rfl (by kernel_rfl) (by kernel_rfl) (by kernel_rfl) (V.fieldBox rfl rfl Try.runUnderlying57 rfl Try.sizeOf3 rfl rfl) (fun a hf => ?_)
              refine H.val hf hs (v := .int .i64 xk1.To) (i := 16) rfl rfl rfl rfl (by kernel_rfl) (by kernel_rfl) (by kernel_rfl) (V.loadBox 0 rfl rfl rfl Try.isAgg3 Try.sizeOf3 rfl rfl) (fun a hf => ?_)
              refine H.one (i := 17) rfl (by kernel_rfl) ?_
              refine S.val hf hs (v := .agg #[.int .i64 xk1.From, .int .i64 xk1.To]) rfl rfl rfl (V.build (places := #[(0, 1), (1, 1)]) rfl Try.zeroValue59 Try.runUnderlying59 (by intro w; simp [Try.sizeOf3]) rfl rfl) (fun a hf => ?_)
              refine R.nil ?_
              refine X.then_ ?_
              refine ⟨hs, ?_⟩
              refine H.val hf hs (v := .bool (!(decide (x3 = (⟨xk1.From, xk1.To⟩ : Through))))) (i := 18) rfl rfl rfl rfl (by kernel_rfl) (by kernel_rfl) (by kernel_rfl) (V.aggneq rfl rfl rfl (by kernel_rfl) (fun w => eqS59 x3 (⟨xk1.From, xk1.To⟩ : Through) w)) (fun a hf => ?_)
              refine H.val hf hs (v := .bool (!(decide (x3 = (⟨xk1.From, xk1.To⟩ : Through))))) (i := 19) rfl rfl rfl rfl (by kernel_rfl) (by kernel_rfl) (by kernel_rfl) (V.pure rfl) (fun a hf => ?_)
              refine H.done (by kernel_rfl) ?_
              refine X.then_ ?_
              exact ⟨(!(decide (x3 = (⟨xk1.From, xk1.To⟩ : Through)))), h, (((((((((((((((hf.nil.cons (hf.get 70 _ rfl)).cons (hf.get 47 _ rfl)).cons (hf.get 46 _ rfl)).cons (hf.get 45 _ rfl)).cons (hf.get 39 _ rfl)).cons (hf.get 38 _ rfl)).cons (hf.get 37 _ rfl)).cons (hf.get 13 _ rfl)).cons (hf.get 11 _ rfl)).cons (hf.get 10 _ rfl)).cons (hf.get 9 _ rfl)).cons (hf.get 7 _ rfl)).cons (hf.get 2 _ rfl)).cons (hf.get 1 _ rfl)).cons (hf.get 0 _ rfl)), hs⟩

end Go.Proofs.Ytjkkefhfbcgahaa

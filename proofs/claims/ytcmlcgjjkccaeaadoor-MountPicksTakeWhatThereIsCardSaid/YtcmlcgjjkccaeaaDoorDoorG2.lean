/- Chapter 10: the laws on picks: the walks. -/
import Derived.Test.YtcmlcgjjkccaeaaDoorDoorG
namespace Go.Proofs.YtcmlcgjjkccaeaaDoor
open Go Go.RowKit
set_option linter.unusedVariables false

set_option linter.unusedVariables false
def M_equal_pick_L1 (s2 : (List Pick)) (Q : Bool → Prop) (k1 : Nat) (xk1 : Pick)  (next1 : Prop) : Prop :=
  idx s2 (k1 : Int) fun x1 => cnd (!(decide (xk1 = x1))) (Q false) (next1)
def M_equal_pick (s1 : (List Pick)) (s2 : (List Pick)) (Q : Bool → Prop) : Prop :=
  cnd ((s1.length : Int) != (s2.length : Int)) (Q false) (forIn' (fun k x (s : Unit) next => M_equal_pick_L1 s2 Q k x (next ())) (fun (s : Unit) => Q true) s1 0 ())
set_option maxHeartbeats 1000000 in
theorem R_equal_pick (s1 : (List Pick)) (s2 : (List Pick)) (w0 : World) (s1A : Option Addr) (s1C : Nat) (hv_s1 : View w0 (old w0 none_) s1A s1C s1) (s2A : Option Addr) (s2C : Nat) (hv_s2 : View w0 (old w0 none_) s2A s2C s2) (Q : Bool → Prop) (h : M_equal_pick s1 s2 Q) :
    Ret Tryd.prog 22 #[.slice s1A s1.length s1C, .slice s2A s2.length s2C] w0 fun v w' => ∃ (r0 : Bool), v = .bool r0 ∧ Q r0 ∧ Sat w0 none_ [] w' := by
  refine fn_enter Tryd.func22 rfl Tryd.ntmps22 rfl (fs := [(0, .slice s1A s1.length s1C), (1, .slice s2A s2.length s2C)]) rfl (fun a hf => ?_)
  have hs := Sat.start w0 none_
  unfold M_equal_pick at h
  refine wp_seq ?_
  refine R.list ?_
  refine S.val hf hs (v := .bool false) rfl rfl rfl (V.pure rfl) (fun a hf => ?_)
  refine R.nil ?_
  refine X.then_ ?_
  refine wp_seq ?_
  refine wp_seq ?_
  refine R.list ?_
  refine S.val hf hs (v := .slice s1A s1.length s1C) rfl rfl rfl (V.pure rfl) (fun a hf => ?_)
  refine S.val hf hs (v := .int .i64 (s1.length : Int)) rfl rfl rfl (V.len rfl rfl Tryd.runUnderlying45) (fun a hf => ?_)
  refine S.val hf hs (v := .slice s2A s2.length s2C) rfl rfl rfl (V.pure rfl) (fun a hf => ?_)
  refine S.val hf hs (v := .int .i64 (s2.length : Int)) rfl rfl rfl (V.len rfl rfl Tryd.runUnderlying45) (fun a hf => ?_)
  refine S.val hf hs (v := .bool ((s1.length : Int) != (s2.length : Int))) rfl rfl rfl (V.pure rfl) (fun a hf => ?_)
  refine R.nil ?_
  refine X.then_ ?_
  refine C.cond hf (b := (s1.length : Int) != (s2.length : Int)) rfl (fun hc => ?_) (fun hc => ?_)
  · replace h := h.1 hc
    refine wp_seq ?_
    refine R.list ?_
    refine S.val hf hs (v := .bool false) rfl rfl rfl (V.pure rfl) (fun a hf => ?_)
    refine R.nil ?_
    refine X.then_ ?_
    refine wp_ret ?_
    refine X.then_ret ?_
    exact L.ret hf (run_results1 Tryd.results22 (ResIs.tmp hf rfl)) ⟨false, rfl, h, hs.nil⟩
  · replace h := h.2 hc
    refine wp_skip ?_
    refine X.then_ ?_
    refine wp_seq ?_
    refine wp_seq ?_
    refine R.list ?_
    refine S.val hf hs (v := .slice s1A s1.length s1C) rfl rfl rfl (V.pure rfl) (fun a hf => ?_)
    refine S.val hf hs (v := .int .i64 (s1.length : Int)) rfl rfl rfl (V.len rfl rfl Tryd.runUnderlying45) (fun a hf => ?_)
    refine S.val hf hs (v := .int .i64 0) rfl rfl rfl (V.pure rfl) (fun a hf => ?_)
    refine R.nil ?_
    refine X.then_ ?_
    refine wp_block ?_
    have hlenk1 := hv_s1.len64
    refine C.range (fun (ll : List Pick) a w => ∃ (k1 : Nat) , s1.drop k1 = ll ∧ k1 + ll.length = s1.length ∧ forIn' (fun k x (s : Unit) next => M_equal_pick_L1 s2 Q k x (next ())) (fun (s : Unit) => Q true) ll k1 () ∧ FrOk 26 [(13, .int .i64 (k1 : Int)), (0, .slice s1A s1.length s1C), (1, .slice s2A s2.length s2C), (12, .int .i64 (s1.length : Int))] a ∧ Sat w0 none_ [] w) s1 ⟨0, rfl, Nat.zero_add _, h, ((((hf.nil.cons (hf.get 12 _ rfl)).cons (hf.get 1 _ rfl)).cons (hf.get 0 _ rfl)).cons (hf.get 13 _ rfl)), hs⟩ ?_
    clear h hf hs
    rintro llk1 a w ⟨k1, hlk1, hkk1, h, hf, hs⟩
    cases llk1 with
    | nil =>
      have hc := range_done hkk1
      replace h : Q true := h
      refine wp_seq ?_
      refine R.list ?_
      refine S.val hf hs (v := .bool false) rfl rfl rfl (V.cmp false rfl rfl rfl rfl hc) (fun a hf => ?_)
      refine R.nil ?_
      refine X.then_ ?_
      refine wp_seq ?_
      refine C.no hf rfl ?_
      refine wp_exit ?_
      refine X.then_exit ?_
      refine X.then_exit ?_
      refine X.blk_exit ?_
      refine X.then_ ?_
      refine wp_seq ?_
      refine R.list ?_
      refine S.val hf hs (v := .bool true) rfl rfl rfl (V.pure rfl) (fun a hf => ?_)
      refine R.nil ?_
      refine X.then_ ?_
      refine wp_ret ?_
      exact L.ret hf (run_results1 Tryd.results22 (ResIs.tmp hf rfl)) ⟨true, rfl, h, hs.nil⟩
    | cons xk1 llk1 =>
      have hltk1 := range_lt hkk1; have hc := range_go hkk1; have hxk1 := range_get hlk1
      obtain ⟨next1, hnext1⟩ : ∃ X : Prop, X = (forIn' (fun k x (s : Unit) next => M_equal_pick_L1 s2 Q k x (next ())) (fun (s : Unit) => Q true) llk1 (k1 + 1) ()) := ⟨_, rfl⟩
      replace h : M_equal_pick_L1 s2 Q k1 xk1  next1 := by rw [hnext1]; exact h
      unfold M_equal_pick_L1 at h
      refine wp_seq ?_
      refine R.list ?_
      refine S.val hf hs (v := .bool true) rfl rfl rfl (V.cmp true rfl rfl rfl rfl hc) (fun a hf => ?_)
      refine R.nil ?_
      refine X.then_ ?_
      refine wp_seq ?_
      refine C.yes hf rfl ?_
      refine wp_skip ?_
      refine X.then_ ?_
      refine wp_seq ?_
      refine wp_block ?_
      refine wp_seq ?_
      refine R.list ?_
      refine S.val hf hs (v := .int .i64 (k1 : Int)) rfl rfl rfl (V.pure rfl) (fun a hf => ?_)
      refine S.val hf hs (v := .int .i64 (k1 : Int)) rfl rfl rfl (V.pure rfl) (fun a hf => ?_)
      refine R.nil ?_
      refine X.then_ ?_
      refine wp_seq ?_
      refine R.draw mo (by kernel_rfl) hs ?_
      refine D.val hf (v := .slice s1A s1.length s1C) rfl rfl rfl (V.pure rfl) (fun a hf => ?_)
      refine D.val hf (v := .int .i64 (k1 : Int)) rfl rfl rfl (V.pure rfl) (fun a hf => ?_)
      refine D.val hf (v := elemPtr s1A (k1 * 4)) rfl rfl rfl (V.index rfl rfl rfl Tryd.runUnderlying45 Tryd.sizeOf50 (hv_s1.some_ (lt_of_get hxk1)) (Int.natCast_nonneg _) (lt_of_get hxk1) rfl) (fun a hf => ?_)
      refine D.val hf (v := .agg #[.int .i64 xk1.Board, .string (ba xk1.Part), .string (ba xk1.Typ), .int .i64 xk1.Slot]) rfl rfl rfl (V.loadEl (off := 0) (Ag.args _ _ _) (hv_s1.flat hxk1) rfl rfl rfl Tryd.isAgg50 Tryd.sizeOf50 rfl rfl) (fun a hf => ?_)
      refine D.val hf (v := .slice s2A s2.length s2C) rfl rfl rfl (V.pure rfl) (fun a hf => ?_)
      refine D.val hf (v := .int .i64 (k1 : Int)) rfl rfl rfl (V.pure rfl) (fun a hf => ?_)
      obtain ⟨h0x1, x1, hx1, h⟩ := h
      refine D.val hf (v := elemPtr s2A (k1 * 4)) rfl rfl rfl (V.index rfl rfl rfl Tryd.runUnderlying45 Tryd.sizeOf50 (hv_s2.some_ (lt_of_get hx1)) (Int.natCast_nonneg _) (lt_of_get hx1) rfl) (fun a hf => ?_)
      refine D.val hf (v := .agg #[.int .i64 x1.Board, .string (ba x1.Part), .string (ba x1.Typ), .int .i64 x1.Slot]) rfl rfl rfl (V.loadEl (off := 0) (Ag.args _ _ _) (hv_s2.flat hx1) rfl rfl rfl Tryd.isAgg50 Tryd.sizeOf50 rfl rfl) (fun a hf => ?_)
      refine D.val hf (v := .bool (!(decide (xk1 = x1)))) rfl rfl rfl (V.aggneq rfl rfl rfl (by kernel_rfl) (fun w => eqS50 xk1 x1 w)) (fun a hf => ?_)
      refine D.done (fun w hs => ?_)
      refine X.then_ ?_
      refine C.cond hf (b := !(decide (xk1 = x1))) rfl (fun hc => ?_) (fun hc => ?_)
      · replace h := h.1 hc
        refine wp_seq ?_
        refine R.list ?_
        refine S.val hf hs (v := .bool false) rfl rfl rfl (V.pure rfl) (fun a hf => ?_)
        refine R.nil ?_
        refine X.then_ ?_
        refine wp_ret ?_
        refine X.blk_ret ?_
        refine X.then_ret ?_
        refine X.then_ret ?_
        refine X.blk_ret ?_
        refine X.then_ret ?_
        exact L.ret hf (run_results1 Tryd.results22 (ResIs.tmp hf rfl)) ⟨false, rfl, h, hs.nil⟩
      · replace h := h.2 hc
        refine wp_skip ?_
        refine X.blk ?_
        refine X.then_ ?_
        refine R.list ?_
        refine S.val hf hs (v := .int .i64 ((k1 + 1 : Nat) : Int)) rfl rfl rfl (V.incr rfl rfl rfl hltk1 hlenk1) (fun a hf => ?_)
        refine S.val hf hs (v := .int .i64 ((k1 + 1 : Nat) : Int)) rfl rfl rfl (V.pure rfl) (fun a hf => ?_)
        refine R.nil ?_
        refine X.then_ ?_
        exact ⟨xk1, llk1, rfl, k1 + 1, range_drop hlk1, range_len hkk1, (by rw [hnext1] at h; exact h), ((((hf.nil.cons (hf.get 12 _ rfl)).cons (hf.get 1 _ rfl)).cons (hf.get 0 _ rfl)).cons (hf.get 13 _ rfl)), hs⟩

set_option linter.unusedVariables false
def M_equal_reel_L1 (s2 : (List Reel)) (Q : Bool → Prop) (k1 : Nat) (xk1 : Reel)  (next1 : Prop) : Prop :=
  idx s2 (k1 : Int) fun x1 => cnd (!(decide (xk1 = x1))) (Q false) (next1)
def M_equal_reel (s1 : (List Reel)) (s2 : (List Reel)) (Q : Bool → Prop) : Prop :=
  cnd ((s1.length : Int) != (s2.length : Int)) (Q false) (forIn' (fun k x (s : Unit) next => M_equal_reel_L1 s2 Q k x (next ())) (fun (s : Unit) => Q true) s1 0 ())
set_option maxHeartbeats 1000000 in
theorem R_equal_reel (s1 : (List Reel)) (s2 : (List Reel)) (w0 : World) (s1A : Option Addr) (s1C : Nat) (hv_s1 : View w0 (old w0 none_) s1A s1C s1) (s2A : Option Addr) (s2C : Nat) (hv_s2 : View w0 (old w0 none_) s2A s2C s2) (Q : Bool → Prop) (h : M_equal_reel s1 s2 Q) :
    Ret Tryd.prog 23 #[.slice s1A s1.length s1C, .slice s2A s2.length s2C] w0 fun v w' => ∃ (r0 : Bool), v = .bool r0 ∧ Q r0 ∧ Sat w0 none_ [] w' := by
  refine fn_enter Tryd.func23 rfl Tryd.ntmps23 rfl (fs := [(0, .slice s1A s1.length s1C), (1, .slice s2A s2.length s2C)]) rfl (fun a hf => ?_)
  have hs := Sat.start w0 none_
  unfold M_equal_reel at h
  refine wp_seq ?_
  refine R.list ?_
  refine S.val hf hs (v := .bool false) rfl rfl rfl (V.pure rfl) (fun a hf => ?_)
  refine R.nil ?_
  refine X.then_ ?_
  refine wp_seq ?_
  refine wp_seq ?_
  refine R.list ?_
  refine S.val hf hs (v := .slice s1A s1.length s1C) rfl rfl rfl (V.pure rfl) (fun a hf => ?_)
  refine S.val hf hs (v := .int .i64 (s1.length : Int)) rfl rfl rfl (V.len rfl rfl Tryd.runUnderlying43) (fun a hf => ?_)
  refine S.val hf hs (v := .slice s2A s2.length s2C) rfl rfl rfl (V.pure rfl) (fun a hf => ?_)
  refine S.val hf hs (v := .int .i64 (s2.length : Int)) rfl rfl rfl (V.len rfl rfl Tryd.runUnderlying43) (fun a hf => ?_)
  refine S.val hf hs (v := .bool ((s1.length : Int) != (s2.length : Int))) rfl rfl rfl (V.pure rfl) (fun a hf => ?_)
  refine R.nil ?_
  refine X.then_ ?_
  refine C.cond hf (b := (s1.length : Int) != (s2.length : Int)) rfl (fun hc => ?_) (fun hc => ?_)
  · replace h := h.1 hc
    refine wp_seq ?_
    refine R.list ?_
    refine S.val hf hs (v := .bool false) rfl rfl rfl (V.pure rfl) (fun a hf => ?_)
    refine R.nil ?_
    refine X.then_ ?_
    refine wp_ret ?_
    refine X.then_ret ?_
    exact L.ret hf (run_results1 Tryd.results23 (ResIs.tmp hf rfl)) ⟨false, rfl, h, hs.nil⟩
  · replace h := h.2 hc
    refine wp_skip ?_
    refine X.then_ ?_
    refine wp_seq ?_
    refine wp_seq ?_
    refine R.list ?_
    refine S.val hf hs (v := .slice s1A s1.length s1C) rfl rfl rfl (V.pure rfl) (fun a hf => ?_)
    refine S.val hf hs (v := .int .i64 (s1.length : Int)) rfl rfl rfl (V.len rfl rfl Tryd.runUnderlying43) (fun a hf => ?_)
    refine S.val hf hs (v := .int .i64 0) rfl rfl rfl (V.pure rfl) (fun a hf => ?_)
    refine R.nil ?_
    refine X.then_ ?_
    refine wp_block ?_
    have hlenk1 := hv_s1.len64
    refine C.range (fun (ll : List Reel) a w => ∃ (k1 : Nat) , s1.drop k1 = ll ∧ k1 + ll.length = s1.length ∧ forIn' (fun k x (s : Unit) next => M_equal_reel_L1 s2 Q k x (next ())) (fun (s : Unit) => Q true) ll k1 () ∧ FrOk 26 [(13, .int .i64 (k1 : Int)), (0, .slice s1A s1.length s1C), (1, .slice s2A s2.length s2C), (12, .int .i64 (s1.length : Int))] a ∧ Sat w0 none_ [] w) s1 ⟨0, rfl, Nat.zero_add _, h, ((((hf.nil.cons (hf.get 12 _ rfl)).cons (hf.get 1 _ rfl)).cons (hf.get 0 _ rfl)).cons (hf.get 13 _ rfl)), hs⟩ ?_
    clear h hf hs
    rintro llk1 a w ⟨k1, hlk1, hkk1, h, hf, hs⟩
    cases llk1 with
    | nil =>
      have hc := range_done hkk1
      replace h : Q true := h
      refine wp_seq ?_
      refine R.list ?_
      refine S.val hf hs (v := .bool false) rfl rfl rfl (V.cmp false rfl rfl rfl rfl hc) (fun a hf => ?_)
      refine R.nil ?_
      refine X.then_ ?_
      refine wp_seq ?_
      refine C.no hf rfl ?_
      refine wp_exit ?_
      refine X.then_exit ?_
      refine X.then_exit ?_
      refine X.blk_exit ?_
      refine X.then_ ?_
      refine wp_seq ?_
      refine R.list ?_
      refine S.val hf hs (v := .bool true) rfl rfl rfl (V.pure rfl) (fun a hf => ?_)
      refine R.nil ?_
      refine X.then_ ?_
      refine wp_ret ?_
      exact L.ret hf (run_results1 Tryd.results23 (ResIs.tmp hf rfl)) ⟨true, rfl, h, hs.nil⟩
    | cons xk1 llk1 =>
      have hltk1 := range_lt hkk1; have hc := range_go hkk1; have hxk1 := range_get hlk1
      obtain ⟨next1, hnext1⟩ : ∃ X : Prop, X = (forIn' (fun k x (s : Unit) next => M_equal_reel_L1 s2 Q k x (next ())) (fun (s : Unit) => Q true) llk1 (k1 + 1) ()) := ⟨_, rfl⟩
      replace h : M_equal_reel_L1 s2 Q k1 xk1  next1 := by rw [hnext1]; exact h
      unfold M_equal_reel_L1 at h
      refine wp_seq ?_
      refine R.list ?_
      refine S.val hf hs (v := .bool true) rfl rfl rfl (V.cmp true rfl rfl rfl rfl hc) (fun a hf => ?_)
      refine R.nil ?_
      refine X.then_ ?_
      refine wp_seq ?_
      refine C.yes hf rfl ?_
      refine wp_skip ?_
      refine X.then_ ?_
      refine wp_seq ?_
      refine wp_block ?_
      refine wp_seq ?_
      refine R.list ?_
      refine S.val hf hs (v := .int .i64 (k1 : Int)) rfl rfl rfl (V.pure rfl) (fun a hf => ?_)
      refine S.val hf hs (v := .int .i64 (k1 : Int)) rfl rfl rfl (V.pure rfl) (fun a hf => ?_)
      refine R.nil ?_
      refine X.then_ ?_
      refine wp_seq ?_
      refine R.draw mo (by kernel_rfl) hs ?_
      refine D.val hf (v := .slice s1A s1.length s1C) rfl rfl rfl (V.pure rfl) (fun a hf => ?_)
      refine D.val hf (v := .int .i64 (k1 : Int)) rfl rfl rfl (V.pure rfl) (fun a hf => ?_)
      refine D.val hf (v := elemPtr s1A (k1 * 3)) rfl rfl rfl (V.index rfl rfl rfl Tryd.runUnderlying43 Tryd.sizeOf52 (hv_s1.some_ (lt_of_get hxk1)) (Int.natCast_nonneg _) (lt_of_get hxk1) rfl) (fun a hf => ?_)
      refine D.val hf (v := .agg #[.int .i64 xk1.Slot, .string (ba xk1.Typ), .int .i64 xk1.Left]) rfl rfl rfl (V.loadEl (off := 0) (Ag.args _ _ _) (hv_s1.flat hxk1) rfl rfl rfl Tryd.isAgg52 Tryd.sizeOf52 rfl rfl) (fun a hf => ?_)
      refine D.val hf (v := .slice s2A s2.length s2C) rfl rfl rfl (V.pure rfl) (fun a hf => ?_)
      refine D.val hf (v := .int .i64 (k1 : Int)) rfl rfl rfl (V.pure rfl) (fun a hf => ?_)
      obtain ⟨h0x1, x1, hx1, h⟩ := h
      refine D.val hf (v := elemPtr s2A (k1 * 3)) rfl rfl rfl (V.index rfl rfl rfl Tryd.runUnderlying43 Tryd.sizeOf52 (hv_s2.some_ (lt_of_get hx1)) (Int.natCast_nonneg _) (lt_of_get hx1) rfl) (fun a hf => ?_)
      refine D.val hf (v := .agg #[.int .i64 x1.Slot, .string (ba x1.Typ), .int .i64 x1.Left]) rfl rfl rfl (V.loadEl (off := 0) (Ag.args _ _ _) (hv_s2.flat hx1) rfl rfl rfl Tryd.isAgg52 Tryd.sizeOf52 rfl rfl) (fun a hf => ?_)
      refine D.val hf (v := .bool (!(decide (xk1 = x1)))) rfl rfl rfl (V.aggneq rfl rfl rfl (by kernel_rfl) (fun w => eqS52 xk1 x1 w)) (fun a hf => ?_)
      refine D.done (fun w hs => ?_)
      refine X.then_ ?_
      refine C.cond hf (b := !(decide (xk1 = x1))) rfl (fun hc => ?_) (fun hc => ?_)
      · replace h := h.1 hc
        refine wp_seq ?_
        refine R.list ?_
        refine S.val hf hs (v := .bool false) rfl rfl rfl (V.pure rfl) (fun a hf => ?_)
        refine R.nil ?_
        refine X.then_ ?_
        refine wp_ret ?_
        refine X.blk_ret ?_
        refine X.then_ret ?_
        refine X.then_ret ?_
        refine X.blk_ret ?_
        refine X.then_ret ?_
        exact L.ret hf (run_results1 Tryd.results23 (ResIs.tmp hf rfl)) ⟨false, rfl, h, hs.nil⟩
      · replace h := h.2 hc
        refine wp_skip ?_
        refine X.blk ?_
        refine X.then_ ?_
        refine R.list ?_
        refine S.val hf hs (v := .int .i64 ((k1 + 1 : Nat) : Int)) rfl rfl rfl (V.incr rfl rfl rfl hltk1 hlenk1) (fun a hf => ?_)
        refine S.val hf hs (v := .int .i64 ((k1 + 1 : Nat) : Int)) rfl rfl rfl (V.pure rfl) (fun a hf => ?_)
        refine R.nil ?_
        refine X.then_ ?_
        exact ⟨xk1, llk1, rfl, k1 + 1, range_drop hlk1, range_len hkk1, (by rw [hnext1] at h; exact h), ((((hf.nil.cons (hf.get 12 _ rfl)).cons (hf.get 1 _ rfl)).cons (hf.get 0 _ rfl)).cons (hf.get 13 _ rfl)), hs⟩

set_option linter.unusedVariables false
def M_law_Picks (b : (List Body)) (l : (List Place)) (r : (List Reel)) (s_ : (List Instead)) (boards : Int) (Q : Bool → Prop) : Prop :=
  M_mount_Picks b l r s_ boards fun y1 y2 y3 => M_ref10_Picks b l r s_ boards fun y4 y5 y6 => cnd (y3 == y6) (M_equal_pick y1 y4 fun y7 => cnd y7 (M_equal_reel y2 y5 fun y8 => cnd y8 (M_awake  fun y9 => Q y9) (Q false)) (Q false)) (Q false)
set_option maxHeartbeats 1000000 in
theorem R_law_Picks (b : (List Body)) (l : (List Place)) (r : (List Reel)) (s_ : (List Instead)) (boards : Int) (w0 : World) (bA : Option Addr) (bC : Nat) (hv_b : View w0 (old w0 none_) bA bC b) (lA : Option Addr) (lC : Nat) (hv_l : View w0 (old w0 none_) lA lC l) (rA : Option Addr) (rC : Nat) (hv_r : View w0 (old w0 none_) rA rC r) (s_A : Option Addr) (s_C : Nat) (hv_s_ : View w0 (old w0 none_) s_A s_C s_) (Q : Bool → Prop) (h : M_law_Picks b l r s_ boards Q) :
    Ret Tryd.prog 6 #[.slice bA b.length bC, .slice lA l.length lC, .slice rA r.length rC, .slice s_A s_.length s_C, .int .i64 boards] w0 fun v w' => ∃ (r0 : Bool), v = .bool r0 ∧ Q r0 ∧ Sat w0 none_ [] w' := by
  refine fn_enter Tryd.func6 rfl Tryd.ntmps6 rfl (fs := [(0, .slice bA b.length bC), (1, .slice lA l.length lC), (2, .slice rA r.length rC), (3, .slice s_A s_.length s_C), (4, .int .i64 boards)]) rfl (fun a hf => ?_)
  have hs := Sat.start w0 none_
  unfold M_law_Picks at h
  refine wp_seq ?_
  refine R.list ?_
  refine S.val hf hs (v := .bool false) rfl rfl rfl (V.pure rfl) (fun a hf => ?_)
  refine R.nil ?_
  refine X.then_ ?_
  refine wp_seq ?_
  refine R.list ?_
  refine S.val hf hs (v := .slice bA b.length bC) rfl rfl rfl (V.pure rfl) (fun a hf => ?_)
  refine S.val hf hs (v := .slice lA l.length lC) rfl rfl rfl (V.pure rfl) (fun a hf => ?_)
  refine S.val hf hs (v := .slice rA r.length rC) rfl rfl rfl (V.pure rfl) (fun a hf => ?_)
  refine S.val hf hs (v := .slice s_A s_.length s_C) rfl rfl rfl (V.pure rfl) (fun a hf => ?_)
  refine S.val hf hs (v := .int .i64 boards) rfl rfl rfl (V.pure rfl) (fun a hf => ?_)
  refine S.call hf rfl rfl rfl (call_fn (vs := [.slice bA b.length bC, .slice lA l.length lC, .slice rA r.length rC, .slice s_A s_.length s_C, .int .i64 boards]) rfl rfl rfl Tryd.call19) (R_mount_Picks b l r s_ boards _ bA bC ((Ag.args _ _ _).view hv_b hs) lA lC ((Ag.args _ _ _).view hv_l hs) rA rC ((Ag.args _ _ _).view hv_r hs) s_A s_C ((Ag.args _ _ _).view hv_s_ hs) _ h) (fun v a w' hf hr => ?_)
  obtain ⟨y1, y1A, y1C, y2, y2A, y2C, y3, rfl, h2, hs2⟩ := hr
  replace h := h2; replace hs := hs.call hs2; clear h2 hs2
  refine S.val hf hs (v := .tuple #[.slice y1A y1.length y1C, .slice y2A y2.length y2C, .int .i64 y3]) rfl rfl rfl (V.pure rfl) (fun a hf => ?_)
  refine S.val hf hs (v := .slice y1A y1.length y1C) rfl rfl rfl (V.pure rfl) (fun a hf => ?_)
  refine S.val hf hs (v := .slice y2A y2.length y2C) rfl rfl rfl (V.pure rfl) (fun a hf => ?_)
  refine S.val hf hs (v := .int .i64 y3) rfl rfl rfl (V.pure rfl) (fun a hf => ?_)
  refine S.val hf hs (v := .slice y1A y1.length y1C) rfl rfl rfl (V.pure rfl) (fun a hf => ?_)
  refine S.val hf hs (v := .slice y2A y2.length y2C) rfl rfl rfl (V.pure rfl) (fun a hf => ?_)
  refine S.val hf hs (v := .int .i64 y3) rfl rfl rfl (V.pure rfl) (fun a hf => ?_)
  refine R.nil ?_
  refine X.then_ ?_
  refine wp_seq ?_
  refine R.list ?_
  refine S.val hf hs (v := .slice bA b.length bC) rfl rfl rfl (V.pure rfl) (fun a hf => ?_)
  refine S.val hf hs (v := .slice lA l.length lC) rfl rfl rfl (V.pure rfl) (fun a hf => ?_)
  refine S.val hf hs (v := .slice rA r.length rC) rfl rfl rfl (V.pure rfl) (fun a hf => ?_)
  refine S.val hf hs (v := .slice s_A s_.length s_C) rfl rfl rfl (V.pure rfl) (fun a hf => ?_)
  refine S.val hf hs (v := .int .i64 boards) rfl rfl rfl (V.pure rfl) (fun a hf => ?_)
  refine S.call hf rfl rfl rfl (call_fn (vs := [.slice bA b.length bC, .slice lA l.length lC, .slice rA r.length rC, .slice s_A s_.length s_C, .int .i64 boards]) rfl rfl rfl Tryd.call21) (R_ref10_Picks b l r s_ boards _ bA bC ((Ag.args _ _ _).view hv_b hs) lA lC ((Ag.args _ _ _).view hv_l hs) rA rC ((Ag.args _ _ _).view hv_r hs) s_A s_C ((Ag.args _ _ _).view hv_s_ hs) _ h) (fun v a w' hf hr => ?_)
  obtain ⟨y4, y4A, y4C, y5, y5A, y5C, y6, rfl, h2, hs2⟩ := hr
  replace h := h2; replace hs := hs.call hs2; clear h2 hs2
  refine S.val hf hs (v := .tuple #[.slice y4A y4.length y4C, .slice y5A y5.length y5C, .int .i64 y6]) rfl rfl rfl (V.pure rfl) (fun a hf => ?_)
  refine S.val hf hs (v := .slice y4A y4.length y4C) rfl rfl rfl (V.pure rfl) (fun a hf => ?_)
  refine S.val hf hs (v := .slice y5A y5.length y5C) rfl rfl rfl (V.pure rfl) (fun a hf => ?_)
  refine S.val hf hs (v := .int .i64 y6) rfl rfl rfl (V.pure rfl) (fun a hf => ?_)
  refine S.val hf hs (v := .slice y4A y4.length y4C) rfl rfl rfl (V.pure rfl) (fun a hf => ?_)
  refine S.val hf hs (v := .slice y5A y5.length y5C) rfl rfl rfl (V.pure rfl) (fun a hf => ?_)
  refine S.val hf hs (v := .int .i64 y6) rfl rfl rfl (V.pure rfl) (fun a hf => ?_)
  refine R.nil ?_
  refine X.then_ ?_
  refine wp_seq ?_
  refine R.list ?_
  refine S.val hf hs (v := .int .i64 y3) rfl rfl rfl (V.pure rfl) (fun a hf => ?_)
  refine S.val hf hs (v := .int .i64 y6) rfl rfl rfl (V.pure rfl) (fun a hf => ?_)
  refine S.val hf hs (v := .bool (y3 == y6)) rfl rfl rfl (V.pure rfl) (fun a hf => ?_)
  refine S.split hf hs (b := y3 == y6) rfl rfl rfl (V.pure rfl) (fun hc a hf => ?_) (fun hc a hf => ?_)
  · replace h := h.1 hc
    refine S.val hf hs (v := .slice y1A y1.length y1C) rfl rfl rfl (V.pure rfl) (fun a hf => ?_)
    refine S.val hf hs (v := .slice y4A y4.length y4C) rfl rfl rfl (V.pure rfl) (fun a hf => ?_)
    refine S.call hf rfl rfl rfl (call_fn (vs := [.slice y1A y1.length y1C, .slice y4A y4.length y4C]) rfl rfl rfl Tryd.call22) (R_equal_pick y1 y4 _ y1A y1C (hs.ownView 2 rfl) y4A y4C (hs.ownView 0 rfl) _ h) (fun v a w' hf hr => ?_)
    obtain ⟨y7, rfl, h2, hs2⟩ := hr
    replace h := h2; replace hs := hs.call hs2; clear h2 hs2
    refine S.val hf hs (v := .bool y7) rfl rfl rfl (V.pure rfl) (fun a hf => ?_)
    refine S.split hf hs (b := y7) rfl rfl rfl (V.pure rfl) (fun hc a hf => ?_) (fun hc a hf => ?_)
    · replace h := h.1 hc
      refine S.val hf hs (v := .slice y2A y2.length y2C) rfl rfl rfl (V.pure rfl) (fun a hf => ?_)
      refine S.val hf hs (v := .slice y5A y5.length y5C) rfl rfl rfl (V.pure rfl) (fun a hf => ?_)
      refine S.call hf rfl rfl rfl (call_fn (vs := [.slice y2A y2.length y2C, .slice y5A y5.length y5C]) rfl rfl rfl Tryd.call23) (R_equal_reel y2 y5 _ y2A y2C (hs.ownView 3 rfl) y5A y5C (hs.ownView 1 rfl) _ h) (fun v a w' hf hr => ?_)
      obtain ⟨y8, rfl, h2, hs2⟩ := hr
      replace h := h2; replace hs := hs.call hs2; clear h2 hs2
      refine S.val hf hs (v := .bool y8) rfl rfl rfl (V.pure rfl) (fun a hf => ?_)
      refine S.split hf hs (b := y8) rfl rfl rfl (V.pure rfl) (fun hc a hf => ?_) (fun hc a hf => ?_)
      · replace h := h.1 hc
        refine S.call hf rfl rfl rfl (call_fn (vs := []) rfl rfl rfl Tryd.call13) (R_awake  _  _ h) (fun v a w' hf hr => ?_)
        obtain ⟨y9, rfl, h2, hs2⟩ := hr
        replace h := h2; replace hs := hs.call hs2; clear h2 hs2
        refine S.val hf hs (v := .bool y9) rfl rfl rfl (V.pure rfl) (fun a hf => ?_)
        refine S.val hf hs (v := .bool y9) rfl rfl rfl (V.pure rfl) (fun a hf => ?_)
        refine R.nil ?_
        refine X.then_ ?_
        refine wp_ret ?_
        exact L.ret hf (run_results1 Tryd.results6 (ResIs.tmp hf rfl)) ⟨y9, rfl, h, hs.nil⟩
      · replace h := h.2 hc
        refine S.skip hf rfl rfl rfl (fun a hf => ?_)
        refine S.val hf hs (v := .bool false) rfl rfl rfl (V.pure rfl) (fun a hf => ?_)
        refine S.val hf hs (v := .bool false) rfl rfl rfl (V.pure rfl) (fun a hf => ?_)
        refine R.nil ?_
        refine X.then_ ?_
        refine wp_ret ?_
        exact L.ret hf (run_results1 Tryd.results6 (ResIs.tmp hf rfl)) ⟨false, rfl, h, hs.nil⟩
    · replace h := h.2 hc
      refine S.skip hf rfl rfl rfl (fun a hf => ?_)
      refine S.skip hf rfl rfl rfl (fun a hf => ?_)
      refine S.skip hf rfl rfl rfl (fun a hf => ?_)
      refine S.val hf hs (v := .bool false) rfl rfl rfl (V.pure rfl) (fun a hf => ?_)
      refine S.val hf hs (v := .bool false) rfl rfl rfl (V.pure rfl) (fun a hf => ?_)
      refine S.skip hf rfl rfl rfl (fun a hf => ?_)
      refine S.val hf hs (v := .bool false) rfl rfl rfl (V.pure rfl) (fun a hf => ?_)
      refine S.val hf hs (v := .bool false) rfl rfl rfl (V.pure rfl) (fun a hf => ?_)
      refine R.nil ?_
      refine X.then_ ?_
      refine wp_ret ?_
      exact L.ret hf (run_results1 Tryd.results6 (ResIs.tmp hf rfl)) ⟨false, rfl, h, hs.nil⟩
  · replace h := h.2 hc
    refine S.skip hf rfl rfl rfl (fun a hf => ?_)
    refine S.skip hf rfl rfl rfl (fun a hf => ?_)
    refine S.skip hf rfl rfl rfl (fun a hf => ?_)
    refine S.val hf hs (v := .bool false) rfl rfl rfl (V.pure rfl) (fun a hf => ?_)
    refine S.val hf hs (v := .bool false) rfl rfl rfl (V.pure rfl) (fun a hf => ?_)
    refine S.skip hf rfl rfl rfl (fun a hf => ?_)
    refine S.skip hf rfl rfl rfl (fun a hf => ?_)
    refine S.skip hf rfl rfl rfl (fun a hf => ?_)
    refine S.val hf hs (v := .bool false) rfl rfl rfl (V.pure rfl) (fun a hf => ?_)
    refine S.val hf hs (v := .bool false) rfl rfl rfl (V.pure rfl) (fun a hf => ?_)
    refine S.skip hf rfl rfl rfl (fun a hf => ?_)
    refine S.val hf hs (v := .bool false) rfl rfl rfl (V.pure rfl) (fun a hf => ?_)
    refine S.val hf hs (v := .bool false) rfl rfl rfl (V.pure rfl) (fun a hf => ?_)
    refine R.nil ?_
    refine X.then_ ?_
    refine wp_ret ?_
    exact L.ret hf (run_results1 Tryd.results6 (ResIs.tmp hf rfl)) ⟨false, rfl, h, hs.nil⟩

set_option linter.unusedVariables false
def M_law_PicksTake_k4 (Q : Bool → Prop) (next2 : Prop) (c2 : Bool) : Prop :=
  cnd c2 (Q false) (next2)
def M_law_PicksTake_L2 (Q : Bool → Prop) (y2 : (List Reel)) (l2 : List Int) (k3 : Nat) (xk3 : Reel)  (next2 : Prop) : Prop :=
  idx y2 (k3 : Int) fun x1 => cnd (decide (x1.Left < 0)) (M_law_PicksTake_k4 Q next2 true) (idx l2 (k3 : Int) fun x2 => cnd ((w64 (x1.Left + x2)) != xk3.Left) (M_law_PicksTake_k4 Q next2 true) (cnd (x1.Slot != xk3.Slot) (M_law_PicksTake_k4 Q next2 true) (M_law_PicksTake_k4 Q next2 (!(x1.Typ == xk3.Typ)))))
def M_law_PicksTake_k7 (Q : Bool → Prop) (next1 : List Int → Prop) (l4 : List Int) (c4 : Bool) : Prop :=
  cnd c4 (Q false) (next1 l4)
def M_law_PicksTake_L3 (Q : Bool → Prop) (xk2 : Pick) (k6 : Nat) (xk6 : Reel) (l4 : List Int) (next3 : List Int → Prop) : Prop :=
  cnd (xk6.Slot == xk2.Slot) (idx l4 (k6 : Int) fun x3 => cnd (!(xk6.Typ == xk2.Typ)) (Q false) (next3 (l4.set k6 (w64 (x3 + 1))))) (next3 l4)
def M_law_PicksTake_k5 (r : (List Reel)) (Q : Bool → Prop) (y2 : (List Reel)) (xk2 : Pick) (l2 : List Int) (next1 : List Int → Prop) (c3 : Bool) : Prop :=
  cnd c3 (Q false) (forIn' (fun k x (s : List Int) next => M_law_PicksTake_L3 Q xk2 k x s (fun l4 => next l4)) (fun (s : List Int) => (fun (l4 : List Int) => cnd (xk2.Slot == 0) (M_ref10_Left y2 xk2.Typ fun y6 => M_law_PicksTake_k7 Q next1 l4 (decide (y6 > 0))) (M_law_PicksTake_k7 Q next1 l4 false)) s) r 0 l2)
def M_law_PicksTake_L1 (l : (List Place)) (r : (List Reel)) (Q : Bool → Prop) (y2 : (List Reel)) (k2 : Nat) (xk2 : Pick) (l2 : List Int) (next1 : List Int → Prop) : Prop :=
  must ((l.length : Int) ≠ 0) (cnd (xk2.Board != (w64 ((w64 ((k2 : Int).tdiv (l.length : Int))) + 1))) (M_law_PicksTake_k5 r Q y2 xk2 l2 next1 true) (must ((l.length : Int) ≠ 0) (idx l ((k2 : Int).tmod (l.length : Int)) fun x4 => M_law_PicksTake_k5 r Q y2 xk2 l2 next1 (!(xk2.Part == x4.Part)))))
def M_law_PicksTake_k1 (l : (List Place)) (r : (List Reel)) (Q : Bool → Prop) (y1 : (List Pick)) (y2 : (List Reel)) (c1 : Bool) : Prop :=
  cnd c1 (Q false) (must (0 ≤ (r.length : Int) ∧ (r.length : Int) * 8 ≤ 281474976710656) (forIn' (fun k x (s : List Int) next => M_law_PicksTake_L1 l r Q y2 k x s (fun l2 => next l2)) (fun (s : List Int) => (fun (l2 : List Int) => forIn' (fun k x (s : Unit) next => M_law_PicksTake_L2 Q y2 l2 k x (next ())) (fun (s : Unit) => M_awake  fun y5 => Q y5) r 0 ()) s) y1 0 (List.replicate r.length 0)))
def M_law_PicksTake (b : (List Body)) (l : (List Place)) (r : (List Reel)) (s_ : (List Instead)) (boards : Int) (Q : Bool → Prop) : Prop :=
  M_mount_Picks b l r s_ boards fun y1 y2 y3 => cnd (y3 != 0) (cnd ((y1.length : Int) == 0) (cnd ((y2.length : Int) == 0) (M_awake  fun y4 => Q y4) (Q false)) (Q false)) (cnd ((y1.length : Int) != (w64 ((l.length : Int) * boards))) (M_law_PicksTake_k1 l r Q y1 y2 true) (M_law_PicksTake_k1 l r Q y1 y2 ((y2.length : Int) != (r.length : Int))))
set_option maxHeartbeats 1000000 in
theorem R_law_PicksTake (b : (List Body)) (l : (List Place)) (r : (List Reel)) (s_ : (List Instead)) (boards : Int) (w0 : World) (bA : Option Addr) (bC : Nat) (hv_b : View w0 (old w0 none_) bA bC b) (lA : Option Addr) (lC : Nat) (hv_l : View w0 (old w0 none_) lA lC l) (rA : Option Addr) (rC : Nat) (hv_r : View w0 (old w0 none_) rA rC r) (s_A : Option Addr) (s_C : Nat) (hv_s_ : View w0 (old w0 none_) s_A s_C s_) (Q : Bool → Prop) (h : M_law_PicksTake b l r s_ boards Q) :
    Ret Tryd.prog 5 #[.slice bA b.length bC, .slice lA l.length lC, .slice rA r.length rC, .slice s_A s_.length s_C, .int .i64 boards] w0 fun v w' => ∃ (r0 : Bool), v = .bool r0 ∧ Q r0 ∧ Sat w0 none_ [] w' := by
  refine fn_enter Tryd.func5 rfl Tryd.ntmps5 rfl (fs := [(0, .slice bA b.length bC), (1, .slice lA l.length lC), (2, .slice rA r.length rC), (3, .slice s_A s_.length s_C), (4, .int .i64 boards)]) rfl (fun a hf => ?_)
  have hs := Sat.start w0 none_
  unfold M_law_PicksTake at h
  refine wp_seq ?_
  refine R.list ?_
  refine S.val hf hs (v := .bool false) rfl rfl rfl (V.pure rfl) (fun a hf => ?_)
  refine R.nil ?_
  refine X.then_ ?_
  refine wp_seq ?_
  refine R.list ?_
  refine S.val hf hs (v := .slice bA b.length bC) rfl rfl rfl (V.pure rfl) (fun a hf => ?_)
  refine S.val hf hs (v := .slice lA l.length lC) rfl rfl rfl (V.pure rfl) (fun a hf => ?_)
  refine S.val hf hs (v := .slice rA r.length rC) rfl rfl rfl (V.pure rfl) (fun a hf => ?_)
  refine S.val hf hs (v := .slice s_A s_.length s_C) rfl rfl rfl (V.pure rfl) (fun a hf => ?_)
  refine S.val hf hs (v := .int .i64 boards) rfl rfl rfl (V.pure rfl) (fun a hf => ?_)
  refine S.call hf rfl rfl rfl (call_fn (vs := [.slice bA b.length bC, .slice lA l.length lC, .slice rA r.length rC, .slice s_A s_.length s_C, .int .i64 boards]) rfl rfl rfl Tryd.call19) (R_mount_Picks b l r s_ boards _ bA bC ((Ag.args _ _ _).view hv_b hs) lA lC ((Ag.args _ _ _).view hv_l hs) rA rC ((Ag.args _ _ _).view hv_r hs) s_A s_C ((Ag.args _ _ _).view hv_s_ hs) _ h) (fun v a w' hf hr => ?_)
  obtain ⟨y1, y1A, y1C, y2, y2A, y2C, y3, rfl, h2, hs2⟩ := hr
  replace h := h2; replace hs := hs.call hs2; clear h2 hs2
  refine S.val hf hs (v := .tuple #[.slice y1A y1.length y1C, .slice y2A y2.length y2C, .int .i64 y3]) rfl rfl rfl (V.pure rfl) (fun a hf => ?_)
  refine S.val hf hs (v := .slice y1A y1.length y1C) rfl rfl rfl (V.pure rfl) (fun a hf => ?_)
  refine S.val hf hs (v := .slice y2A y2.length y2C) rfl rfl rfl (V.pure rfl) (fun a hf => ?_)
  refine S.val hf hs (v := .int .i64 y3) rfl rfl rfl (V.pure rfl) (fun a hf => ?_)
  refine S.val hf hs (v := .slice y1A y1.length y1C) rfl rfl rfl (V.pure rfl) (fun a hf => ?_)
  refine S.val hf hs (v := .slice y2A y2.length y2C) rfl rfl rfl (V.pure rfl) (fun a hf => ?_)
  refine S.val hf hs (v := .int .i64 y3) rfl rfl rfl (V.pure rfl) (fun a hf => ?_)
  refine R.nil ?_
  refine X.then_ ?_
  refine wp_seq ?_
  refine wp_seq ?_
  refine R.list ?_
  refine S.val hf hs (v := .int .i64 y3) rfl rfl rfl (V.pure rfl) (fun a hf => ?_)
  refine S.val hf hs (v := .bool (y3 != 0)) rfl rfl rfl (V.pure rfl) (fun a hf => ?_)
  refine R.nil ?_
  refine X.then_ ?_
  refine C.cond hf (b := y3 != 0) rfl (fun hc => ?_) (fun hc => ?_)
  · replace h := h.1 hc
    refine wp_seq ?_
    refine R.list ?_
    refine S.val hf hs (v := .slice y1A y1.length y1C) rfl rfl rfl (V.pure rfl) (fun a hf => ?_)
    refine S.val hf hs (v := .int .i64 (y1.length : Int)) rfl rfl rfl (V.len rfl rfl Tryd.runUnderlying45) (fun a hf => ?_)
    refine S.val hf hs (v := .bool ((y1.length : Int) == 0)) rfl rfl rfl (V.pure rfl) (fun a hf => ?_)
    refine S.split hf hs (b := (y1.length : Int) == 0) rfl rfl rfl (V.pure rfl) (fun hc a hf => ?_) (fun hc a hf => ?_)
    · replace h := h.1 hc
      refine S.val hf hs (v := .slice y2A y2.length y2C) rfl rfl rfl (V.pure rfl) (fun a hf => ?_)
      refine S.val hf hs (v := .int .i64 (y2.length : Int)) rfl rfl rfl (V.len rfl rfl Tryd.runUnderlying43) (fun a hf => ?_)
      refine S.val hf hs (v := .bool ((y2.length : Int) == 0)) rfl rfl rfl (V.pure rfl) (fun a hf => ?_)
      refine S.val hf hs (v := .bool ((y2.length : Int) == 0)) rfl rfl rfl (V.pure rfl) (fun a hf => ?_)
      refine S.split hf hs (b := (y2.length : Int) == 0) rfl rfl rfl (V.pure rfl) (fun hc a hf => ?_) (fun hc a hf => ?_)
      · replace h := h.1 hc
        refine S.call hf rfl rfl rfl (call_fn (vs := []) rfl rfl rfl Tryd.call13) (R_awake  _  _ h) (fun v a w' hf hr => ?_)
        obtain ⟨y4, rfl, h2, hs2⟩ := hr
        replace h := h2; replace hs := hs.call hs2; clear h2 hs2
        refine S.val hf hs (v := .bool y4) rfl rfl rfl (V.pure rfl) (fun a hf => ?_)
        refine S.val hf hs (v := .bool y4) rfl rfl rfl (V.pure rfl) (fun a hf => ?_)
        refine R.nil ?_
        refine X.then_ ?_
        refine wp_ret ?_
        refine X.then_ret ?_
        exact L.ret hf (run_results1 Tryd.results5 (ResIs.tmp hf rfl)) ⟨y4, rfl, h, hs.nil⟩
      · replace h := h.2 hc
        refine S.skip hf rfl rfl rfl (fun a hf => ?_)
        refine S.val hf hs (v := .bool false) rfl rfl rfl (V.pure rfl) (fun a hf => ?_)
        refine S.val hf hs (v := .bool false) rfl rfl rfl (V.pure rfl) (fun a hf => ?_)
        refine R.nil ?_
        refine X.then_ ?_
        refine wp_ret ?_
        refine X.then_ret ?_
        exact L.ret hf (run_results1 Tryd.results5 (ResIs.tmp hf rfl)) ⟨false, rfl, h, hs.nil⟩
    · replace h := h.2 hc
      refine S.skip hf rfl rfl rfl (fun a hf => ?_)
      refine S.skip hf rfl rfl rfl (fun a hf => ?_)
      refine S.skip hf rfl rfl rfl (fun a hf => ?_)
      refine S.val hf hs (v := .bool false) rfl rfl rfl (V.pure rfl) (fun a hf => ?_)
      refine S.val hf hs (v := .bool false) rfl rfl rfl (V.pure rfl) (fun a hf => ?_)
      refine S.skip hf rfl rfl rfl (fun a hf => ?_)
      refine S.val hf hs (v := .bool false) rfl rfl rfl (V.pure rfl) (fun a hf => ?_)
      refine S.val hf hs (v := .bool false) rfl rfl rfl (V.pure rfl) (fun a hf => ?_)
      refine R.nil ?_
      refine X.then_ ?_
      refine wp_ret ?_
      refine X.then_ret ?_
      exact L.ret hf (run_results1 Tryd.results5 (ResIs.tmp hf rfl)) ⟨false, rfl, h, hs.nil⟩
  · replace h := h.2 hc
    refine wp_skip ?_
    refine X.then_ ?_
    refine wp_seq ?_
    refine wp_seq ?_
    refine C.cut (J := fun a w => ∃ (c1 : Bool), M_law_PicksTake_k1 l r Q y1 y2 c1 ∧ FrOk 174 [(1, .slice lA l.length lC), (2, .slice rA r.length rC), (11, .slice y1A y1.length y1C), (12, .slice y2A y2.length y2C), (57, .bool c1)] a ∧ Sat w0 none_ [hown 50 y1A y1C y1, hown 52 y2A y2C y2] w) ?_ ?_
    · rintro a w ⟨c1, h, hf, hs⟩
      unfold M_law_PicksTake_k1 at h
      refine C.cond hf (b := c1) rfl (fun hc => ?_) (fun hc => ?_)
      · replace h := h.1 hc
        refine wp_seq ?_
        refine R.list ?_
        refine S.val hf hs (v := .bool false) rfl rfl rfl (V.pure rfl) (fun a hf => ?_)
        refine R.nil ?_
        refine X.then_ ?_
        refine wp_ret ?_
        refine X.then_ret ?_
        exact L.ret hf (run_results1 Tryd.results5 (ResIs.tmp hf rfl)) ⟨false, rfl, h, hs.nil⟩
      · replace h := h.2 hc
        refine wp_skip ?_
        refine X.then_ ?_
        refine wp_seq ?_
        refine R.list ?_
        refine S.val hf hs (v := .slice rA r.length rC) rfl rfl rfl (V.pure rfl) (fun a hf => ?_)
        refine S.val hf hs (v := .int .i64 (r.length : Int)) rfl rfl rfl (V.len rfl rfl Tryd.runUnderlying43) (fun a hf => ?_)
        obtain ⟨hmk, h⟩ := h
        refine S.make hf hs rfl rfl rfl (α := Int) 0 (z := (r.length : Int)) (N := r.length) rfl rfl rfl Tryd.underlying48 info3 hmk rfl (by have := hmk.2; omega) (fun A1 a w hf hs => ?_)
        refine S.val hf hs (v := .slice A1 (List.replicate r.length 0).length r.length) rfl rfl rfl (V.pure rfl) (fun a hf => ?_)
        refine R.nil ?_
        refine X.then_ ?_
        refine wp_seq ?_
        refine wp_seq ?_
        refine R.list ?_
        refine S.val hf hs (v := .slice y1A y1.length y1C) rfl rfl rfl (V.pure rfl) (fun a hf => ?_)
        refine S.val hf hs (v := .int .i64 (y1.length : Int)) rfl rfl rfl (V.len rfl rfl Tryd.runUnderlying45) (fun a hf => ?_)
        refine S.val hf hs (v := .int .i64 0) rfl rfl rfl (V.pure rfl) (fun a hf => ?_)
        refine R.nil ?_
        refine X.then_ ?_
        refine wp_block ?_
        have hlenk2 := (hs.ownView 1 rfl).len64
        refine C.range (fun (ll : List Pick) a w => ∃ (k2 : Nat) (l2 : List Int) (l2A : Option Addr) (l2C : Nat), y1.drop k2 = ll ∧ k2 + ll.length = y1.length ∧ forIn' (fun k x (s : List Int) next => M_law_PicksTake_L1 l r Q y2 k x s (fun l2 => next l2)) (fun (s : List Int) => (fun (l2 : List Int) => forIn' (fun k x (s : Unit) next => M_law_PicksTake_L2 Q y2 l2 k x (next ())) (fun (s : Unit) => M_awake  fun y5 => Q y5) r 0 ()) s) ll k2 l2 ∧ FrOk 174 [(63, .int .i64 (k2 : Int)), (1, .slice lA l.length lC), (2, .slice rA r.length rC), (12, .slice y2A y2.length y2C), (14, .slice l2A l2.length l2C), (61, .slice y1A y1.length y1C), (62, .int .i64 (y1.length : Int))] a ∧ Sat w0 none_ [hown 3 l2A l2C l2, hown 50 y1A y1C y1, hown 52 y2A y2C y2] w) y1 ⟨0, (List.replicate r.length 0), A1, r.length, rfl, Nat.zero_add _, h, (((((((hf.nil.cons (hf.get 62 _ rfl)).cons (hf.get 61 _ rfl)).cons (hf.get 14 _ rfl)).cons (hf.get 12 _ rfl)).cons (hf.get 2 _ rfl)).cons (hf.get 1 _ rfl)).cons (hf.get 63 _ rfl)), hs⟩ ?_
        clear h hf hs
        rintro llk2 a w ⟨k2, l2, l2A, l2C, hlk2, hkk2, h, hf, hs⟩
        cases llk2 with
        | nil =>
          have hc := range_done hkk2
          replace h : (fun (l2 : List Int) => forIn' (fun k x (s : Unit) next => M_law_PicksTake_L2 Q y2 l2 k x (next ())) (fun (s : Unit) => M_awake  fun y5 => Q y5) r 0 ()) l2 := h
          refine wp_seq ?_
          refine R.list ?_
          refine S.val hf hs (v := .bool false) rfl rfl rfl (V.cmp false rfl rfl rfl rfl hc) (fun a hf => ?_)
          refine R.nil ?_
          refine X.then_ ?_
          refine wp_seq ?_
          refine C.no hf rfl ?_
          refine wp_exit ?_
          refine X.then_exit ?_
          refine X.then_exit ?_
          refine X.blk_exit ?_
          refine X.then_ ?_
          refine wp_seq ?_
          refine wp_seq ?_
          refine R.list ?_
          refine S.val hf hs (v := .slice rA r.length rC) rfl rfl rfl (V.pure rfl) (fun a hf => ?_)
          refine S.val hf hs (v := .int .i64 (r.length : Int)) rfl rfl rfl (V.len rfl rfl Tryd.runUnderlying43) (fun a hf => ?_)
          refine S.val hf hs (v := .int .i64 0) rfl rfl rfl (V.pure rfl) (fun a hf => ?_)
          refine R.nil ?_
          refine X.then_ ?_
          refine wp_block ?_
          have hlenk3 := hv_r.len64
          refine C.range (fun (ll : List Reel) a w => ∃ (k3 : Nat) , r.drop k3 = ll ∧ k3 + ll.length = r.length ∧ forIn' (fun k x (s : Unit) next => M_law_PicksTake_L2 Q y2 l2 k x (next ())) (fun (s : Unit) => M_awake  fun y5 => Q y5) ll k3 () ∧ FrOk 174 [(126, .int .i64 (k3 : Int)), (12, .slice y2A y2.length y2C), (14, .slice l2A l2.length l2C), (124, .slice rA r.length rC), (125, .int .i64 (r.length : Int))] a ∧ Sat w0 none_ [hown 3 l2A l2C l2, hown 50 y1A y1C y1, hown 52 y2A y2C y2] w) r ⟨0, rfl, Nat.zero_add _, h, (((((hf.nil.cons (hf.get 125 _ rfl)).cons (hf.get 124 _ rfl)).cons (hf.get 14 _ rfl)).cons (hf.get 12 _ rfl)).cons (hf.get 126 _ rfl)), hs⟩ ?_
          clear h hf hs
          rintro llk3 a w ⟨k3, hlk3, hkk3, h, hf, hs⟩
          cases llk3 with
          | nil =>
            have hc := range_done hkk3
            replace h : M_awake  fun y5 => Q y5 := h
            refine wp_seq ?_
            refine R.list ?_
            refine S.val hf hs (v := .bool false) rfl rfl rfl (V.cmp false rfl rfl rfl rfl hc) (fun a hf => ?_)
            refine R.nil ?_
            refine X.then_ ?_
            refine wp_seq ?_
            refine C.no hf rfl ?_
            refine wp_exit ?_
            refine X.then_exit ?_
            refine X.then_exit ?_
            refine X.blk_exit ?_
            refine X.then_ ?_
            refine wp_seq ?_
            refine R.list ?_
            refine S.call hf rfl rfl rfl (call_fn (vs := []) rfl rfl rfl Tryd.call13) (R_awake  _  _ h) (fun v a w' hf hr => ?_)
            obtain ⟨y5, rfl, h2, hs2⟩ := hr
            replace h := h2; replace hs := hs.call hs2; clear h2 hs2
            refine S.val hf hs (v := .bool y5) rfl rfl rfl (V.pure rfl) (fun a hf => ?_)
            refine R.nil ?_
            refine X.then_ ?_
            refine wp_ret ?_
            exact L.ret hf (run_results1 Tryd.results5 (ResIs.tmp hf rfl)) ⟨y5, rfl, h, hs.nil⟩
          | cons xk3 llk3 =>
            have hltk3 := range_lt hkk3; have hc := range_go hkk3; have hxk3 := range_get hlk3
            obtain ⟨next2, hnext2⟩ : ∃ X : Prop, X = (forIn' (fun k x (s : Unit) next => M_law_PicksTake_L2 Q y2 l2 k x (next ())) (fun (s : Unit) => M_awake  fun y5 => Q y5) llk3 (k3 + 1) ()) := ⟨_, rfl⟩
            replace h : M_law_PicksTake_L2 Q y2 l2 k3 xk3  next2 := by rw [hnext2]; exact h
            unfold M_law_PicksTake_L2 at h
            refine wp_seq ?_
            refine R.list ?_
            refine S.val hf hs (v := .bool true) rfl rfl rfl (V.cmp true rfl rfl rfl rfl hc) (fun a hf => ?_)
            refine R.nil ?_
            refine X.then_ ?_
            refine wp_seq ?_
            refine C.yes hf rfl ?_
            refine wp_skip ?_
            refine X.then_ ?_
            refine wp_seq ?_
            refine wp_block ?_
            refine wp_seq ?_
            refine R.list ?_
            refine S.val hf hs (v := .int .i64 (k3 : Int)) rfl rfl rfl (V.pure rfl) (fun a hf => ?_)
            refine S.val hf hs (v := elemPtr rA (k3 * 3)) rfl rfl rfl (V.index rfl rfl rfl Tryd.runUnderlying43 Tryd.sizeOf52 (hv_r.some_ (lt_of_get hxk3)) (Int.natCast_nonneg _) (lt_of_get hxk3) rfl) (fun a hf => ?_)
            refine S.val hf hs (v := .agg #[.int .i64 xk3.Slot, .string (ba xk3.Typ), .int .i64 xk3.Left]) rfl rfl rfl (V.loadEl (off := 0) (Ag.args _ _ _) (hv_r.flat hxk3) rfl rfl rfl Tryd.isAgg52 Tryd.sizeOf52 rfl rfl) (fun a hf => ?_)
            refine S.alloc hf hs rfl rfl rfl [.int .i64 0, .string (ba []), .int .i64 0] rfl Tryd.zeroValue52 rfl (fun g1 a w hf hs => ?_)
            refine S.val hf hs (v := .int .i64 (k3 : Int)) rfl rfl rfl (V.pure rfl) (fun a hf => ?_)
            refine S.storeBox 0 hf hs rfl rfl [.int .i64 xk3.Slot, .string (ba xk3.Typ), .int .i64 xk3.Left] [.int .i64 xk3.Slot, .string (ba xk3.Typ), .int .i64 xk3.Left] rfl rfl rfl rfl rfl Tryd.sizeOf52 rfl rfl rfl rfl (fun a w hf hs => ?_)
            refine R.nil ?_
            refine X.then_ ?_
            refine wp_seq ?_
            refine C.cut (J := fun a w => ∃ (c2 : Bool), M_law_PicksTake_k4 Q next2 c2 ∧ FrOk 174 [(12, .slice y2A y2.length y2C), (14, .slice l2A l2.length l2C), (124, .slice rA r.length rC), (125, .int .i64 (r.length : Int)), (126, .int .i64 (k3 : Int)), (171, .bool c2)] a ∧ Sat w0 none_ [hbox g1 52 [.int .i64 xk3.Slot, .string (ba xk3.Typ), .int .i64 xk3.Left], hown 3 l2A l2C l2, hown 50 y1A y1C y1, hown 52 y2A y2C y2] w) ?_ ?_
            · rintro a w ⟨c2, h, hf, hs⟩
              unfold M_law_PicksTake_k4 at h
              refine C.cond hf (b := c2) rfl (fun hc => ?_) (fun hc => ?_)
              · replace h := h.1 hc
                refine wp_seq ?_
                refine R.list ?_
                refine S.val hf hs (v := .bool false) rfl rfl rfl (V.pure rfl) (fun a hf => ?_)
                refine R.nil ?_
                refine X.then_ ?_
                refine wp_ret ?_
                refine X.blk_ret ?_
                refine X.then_ret ?_
                refine X.then_ret ?_
                refine X.blk_ret ?_
                refine X.then_ret ?_
                exact L.ret hf (run_results1 Tryd.results5 (ResIs.tmp hf rfl)) ⟨false, rfl, h, hs.nil⟩
              · replace h := h.2 hc
                refine wp_skip ?_
                refine X.blk ?_
                refine X.then_ ?_
                refine R.list ?_
                refine S.val hf hs (v := .int .i64 ((k3 + 1 : Nat) : Int)) rfl rfl rfl (V.incr rfl rfl rfl hltk3 hlenk3) (fun a hf => ?_)
                refine S.val hf hs (v := .int .i64 ((k3 + 1 : Nat) : Int)) rfl rfl rfl (V.pure rfl) (fun a hf => ?_)
                refine R.nil ?_
                refine X.then_ ?_
                exact ⟨xk3, llk3, rfl, k3 + 1, range_drop hlk3, range_len hkk3, (by rw [hnext2] at h; exact h), (((((hf.nil.cons (hf.get 125 _ rfl)).cons (hf.get 124 _ rfl)).cons (hf.get 14 _ rfl)).cons (hf.get 12 _ rfl)).cons (hf.get 126 _ rfl)), hs.drop⟩
            · skip
              refine R.draw mo (by kernel_rfl) hs ?_
              refine D.val hf (v := .slice y2A y2.length y2C) rfl rfl rfl (V.pure rfl) (fun a hf => ?_)
              refine D.val hf (v := .int .i64 (k3 : Int)) rfl rfl rfl (V.pure rfl) (fun a hf => ?_)
              obtain ⟨h0x1, x1, hx1, h⟩ := h
              refine D.val hf (v := elemPtr y2A (k3 * 3)) rfl rfl rfl (V.index rfl rfl rfl Tryd.runUnderlying43 Tryd.sizeOf52 (hs.ownSome 3 rfl (lt_of_get hx1)) (Int.natCast_nonneg _) (lt_of_get hx1) rfl) (fun a hf => ?_)
              refine D.val hf (v := elemPtr y2A (k3 * 3 + 2)) rfl rfl rfl (V.fieldEl rfl rfl (hs.ownSome 3 rfl (lt_of_get hx1)) Tryd.runUnderlying52 rfl Tryd.sizeOf3 rfl rfl) (fun a hf => ?_)
              refine D.val hf (v := .int .i64 x1.Left) rfl rfl rfl (V.loadOwn (off := 2) 3 rfl hx1 rfl rfl rfl Tryd.isAgg3 Tryd.sizeOf3 rfl rfl) (fun a hf => ?_)
              refine D.val hf (v := .bool (decide (x1.Left < 0))) rfl rfl rfl (V.pure rfl) (fun a hf => ?_)
              refine D.split hf (b := decide (x1.Left < 0)) rfl rfl rfl (V.pure rfl) (fun hc a hf => ?_) (fun hc a hf => ?_)
              · replace h := h.1 hc
                refine D.skip hf rfl rfl rfl (fun a hf => ?_)
                refine D.skip hf rfl rfl rfl (fun a hf => ?_)
                refine D.skip hf rfl rfl rfl (fun a hf => ?_)
                refine D.skip hf rfl rfl rfl (fun a hf => ?_)
                refine D.skip hf rfl rfl rfl (fun a hf => ?_)
                refine D.skip hf rfl rfl rfl (fun a hf => ?_)
                refine D.skip hf rfl rfl rfl (fun a hf => ?_)
                refine D.skip hf rfl rfl rfl (fun a hf => ?_)
                refine D.skip hf rfl rfl rfl (fun a hf => ?_)
                refine D.skip hf rfl rfl rfl (fun a hf => ?_)
                refine D.skip hf rfl rfl rfl (fun a hf => ?_)
                refine D.skip hf rfl rfl rfl (fun a hf => ?_)
                refine D.skip hf rfl rfl rfl (fun a hf => ?_)
                refine D.val hf (v := .bool true) rfl rfl rfl (V.pure rfl) (fun a hf => ?_)
                refine D.val hf (v := .bool true) rfl rfl rfl (V.pure rfl) (fun a hf => ?_)
                refine D.skip hf rfl rfl rfl (fun a hf => ?_)
                refine D.skip hf rfl rfl rfl (fun a hf => ?_)
                refine D.skip hf rfl rfl rfl (fun a hf => ?_)
                refine D.skip hf rfl rfl rfl (fun a hf => ?_)
                refine D.skip hf rfl rfl rfl (fun a hf => ?_)
                refine D.skip hf rfl rfl rfl (fun a hf => ?_)
                refine D.skip hf rfl rfl rfl (fun a hf => ?_)
                refine D.skip hf rfl rfl rfl (fun a hf => ?_)
                refine D.val hf (v := .bool true) rfl rfl rfl (V.pure rfl) (fun a hf => ?_)
                refine D.val hf (v := .bool true) rfl rfl rfl (V.pure rfl) (fun a hf => ?_)
                refine D.skip hf rfl rfl rfl (fun a hf => ?_)
                refine D.skip hf rfl rfl rfl (fun a hf => ?_)
                refine D.skip hf rfl rfl rfl (fun a hf => ?_)
                refine D.skip hf rfl rfl rfl (fun a hf => ?_)
                refine D.skip hf rfl rfl rfl (fun a hf => ?_)
                refine D.skip hf rfl rfl rfl (fun a hf => ?_)
                refine D.skip hf rfl rfl rfl (fun a hf => ?_)
                refine D.skip hf rfl rfl rfl (fun a hf => ?_)
                refine D.val hf (v := .bool true) rfl rfl rfl (V.pure rfl) (fun a hf => ?_)
                refine D.done (fun w hs => ?_)
                refine X.then_ ?_
                exact ⟨true, h, ((((((hf.nil.cons (hf.get 171 _ rfl)).cons (hf.get 126 _ rfl)).cons (hf.get 125 _ rfl)).cons (hf.get 124 _ rfl)).cons (hf.get 14 _ rfl)).cons (hf.get 12 _ rfl)), hs⟩
              · replace h := h.2 hc
                refine D.val hf (v := .slice y2A y2.length y2C) rfl rfl rfl (V.pure rfl) (fun a hf => ?_)
                refine D.val hf (v := .int .i64 (k3 : Int)) rfl rfl rfl (V.pure rfl) (fun a hf => ?_)
                refine D.val hf (v := elemPtr y2A (k3 * 3)) rfl rfl rfl (V.index rfl rfl rfl Tryd.runUnderlying43 Tryd.sizeOf52 (hs.ownSome 3 rfl (lt_of_get hx1)) (Int.natCast_nonneg _) (lt_of_get hx1) rfl) (fun a hf => ?_)
                refine D.val hf (v := elemPtr y2A (k3 * 3 + 2)) rfl rfl rfl (V.fieldEl rfl rfl (hs.ownSome 3 rfl (lt_of_get hx1)) Tryd.runUnderlying52 rfl Tryd.sizeOf3 rfl rfl) (fun a hf => ?_)
                refine D.val hf (v := .int .i64 x1.Left) rfl rfl rfl (V.loadOwn (off := 2) 3 rfl hx1 rfl rfl rfl Tryd.isAgg3 Tryd.sizeOf3 rfl rfl) (fun a hf => ?_)
                refine D.val hf (v := .slice l2A l2.length l2C) rfl rfl rfl (V.pure rfl) (fun a hf => ?_)
                refine D.val hf (v := .int .i64 (k3 : Int)) rfl rfl rfl (V.pure rfl) (fun a hf => ?_)
                obtain ⟨h0x2, x2, hx2, h⟩ := h
                refine D.val hf (v := elemPtr l2A (k3 * 1)) rfl rfl rfl (V.index rfl rfl rfl Tryd.runUnderlying48 Tryd.sizeOf3 (hs.ownSome 1 rfl (lt_of_get hx2)) (Int.natCast_nonneg _) (lt_of_get hx2) rfl) (fun a hf => ?_)
                refine D.val hf (v := .int .i64 x2) rfl rfl rfl (V.loadOwn (off := 0) 1 rfl hx2 rfl rfl rfl Tryd.isAgg3 Tryd.sizeOf3 rfl rfl) (fun a hf => ?_)
                refine D.val hf (v := .int .i64 (w64 (x1.Left + x2))) rfl rfl rfl (V.pure rfl) (fun a hf => ?_)
                refine D.val hf (v := .pointer (some ⟨g1, 2, none⟩)) rfl rfl rfl (V.fieldBox rfl rfl Tryd.runUnderlying52 rfl Tryd.sizeOf3 rfl rfl) (fun a hf => ?_)
                refine D.val hf (v := .int .i64 xk3.Left) rfl rfl rfl (V.loadBox 0 rfl rfl rfl Tryd.isAgg3 Tryd.sizeOf3 rfl rfl) (fun a hf => ?_)
                refine D.val hf (v := .bool ((w64 (x1.Left + x2)) != xk3.Left)) rfl rfl rfl (V.pure rfl) (fun a hf => ?_)
                refine D.val hf (v := .bool ((w64 (x1.Left + x2)) != xk3.Left)) rfl rfl rfl (V.pure rfl) (fun a hf => ?_)
                refine D.split hf (b := (w64 (x1.Left + x2)) != xk3.Left) rfl rfl rfl (V.pure rfl) (fun hc a hf => ?_) (fun hc a hf => ?_)
                · replace h := h.1 hc
                  refine D.skip hf rfl rfl rfl (fun a hf => ?_)
                  refine D.skip hf rfl rfl rfl (fun a hf => ?_)
                  refine D.skip hf rfl rfl rfl (fun a hf => ?_)
                  refine D.skip hf rfl rfl rfl (fun a hf => ?_)
                  refine D.skip hf rfl rfl rfl (fun a hf => ?_)
                  refine D.skip hf rfl rfl rfl (fun a hf => ?_)
                  refine D.skip hf rfl rfl rfl (fun a hf => ?_)
                  refine D.skip hf rfl rfl rfl (fun a hf => ?_)
                  refine D.val hf (v := .bool true) rfl rfl rfl (V.pure rfl) (fun a hf => ?_)
                  refine D.val hf (v := .bool true) rfl rfl rfl (V.pure rfl) (fun a hf => ?_)
                  refine D.skip hf rfl rfl rfl (fun a hf => ?_)
                  refine D.skip hf rfl rfl rfl (fun a hf => ?_)
                  refine D.skip hf rfl rfl rfl (fun a hf => ?_)
                  refine D.skip hf rfl rfl rfl (fun a hf => ?_)
                  refine D.skip hf rfl rfl rfl (fun a hf => ?_)
                  refine D.skip hf rfl rfl rfl (fun a hf => ?_)
                  refine D.skip hf rfl rfl rfl (fun a hf => ?_)
                  refine D.skip hf rfl rfl rfl (fun a hf => ?_)
                  refine D.val hf (v := .bool true) rfl rfl rfl (V.pure rfl) (fun a hf => ?_)
                  refine D.done (fun w hs => ?_)
                  refine X.then_ ?_
                  exact ⟨true, h, ((((((hf.nil.cons (hf.get 171 _ rfl)).cons (hf.get 126 _ rfl)).cons (hf.get 125 _ rfl)).cons (hf.get 124 _ rfl)).cons (hf.get 14 _ rfl)).cons (hf.get 12 _ rfl)), hs⟩
                · replace h := h.2 hc
                  refine D.val hf (v := .slice y2A y2.length y2C) rfl rfl rfl (V.pure rfl) (fun a hf => ?_)
                  refine D.val hf (v := .int .i64 (k3 : Int)) rfl rfl rfl (V.pure rfl) (fun a hf => ?_)
                  refine D.val hf (v := elemPtr y2A (k3 * 3)) rfl rfl rfl (V.index rfl rfl rfl Tryd.runUnderlying43 Tryd.sizeOf52 (hs.ownSome 3 rfl (lt_of_get hx1)) (Int.natCast_nonneg _) (lt_of_get hx1) rfl) (fun a hf => ?_)
                  refine D.val hf (v := elemPtr y2A (k3 * 3)) rfl rfl rfl (V.fieldEl rfl rfl (hs.ownSome 3 rfl (lt_of_get hx1)) Tryd.runUnderlying52 rfl Tryd.sizeOf3 rfl rfl) (fun a hf => ?_)
                  refine D.val hf (v := .int .i64 x1.Slot) rfl rfl rfl (V.loadOwn (off := 0) 3 rfl hx1 rfl rfl rfl Tryd.isAgg3 Tryd.sizeOf3 rfl rfl) (fun a hf => ?_)
                  refine D.val hf (v := .pointer (some ⟨g1, 0, none⟩)) rfl rfl rfl (V.fieldBox rfl rfl Tryd.runUnderlying52 rfl Tryd.sizeOf3 rfl rfl) (fun a hf => ?_)
                  refine D.val hf (v := .int .i64 xk3.Slot) rfl rfl rfl (V.loadBox 0 rfl rfl rfl Tryd.isAgg3 Tryd.sizeOf3 rfl rfl) (fun a hf => ?_)
                  refine D.val hf (v := .bool (x1.Slot != xk3.Slot)) rfl rfl rfl (V.pure rfl) (fun a hf => ?_)
                  refine D.val hf (v := .bool (x1.Slot != xk3.Slot)) rfl rfl rfl (V.pure rfl) (fun a hf => ?_)
                  refine D.split hf (b := x1.Slot != xk3.Slot) rfl rfl rfl (V.pure rfl) (fun hc a hf => ?_) (fun hc a hf => ?_)
                  · replace h := h.1 hc
                    refine D.skip hf rfl rfl rfl (fun a hf => ?_)
                    refine D.skip hf rfl rfl rfl (fun a hf => ?_)
                    refine D.skip hf rfl rfl rfl (fun a hf => ?_)
                    refine D.skip hf rfl rfl rfl (fun a hf => ?_)
                    refine D.skip hf rfl rfl rfl (fun a hf => ?_)
                    refine D.skip hf rfl rfl rfl (fun a hf => ?_)
                    refine D.skip hf rfl rfl rfl (fun a hf => ?_)
                    refine D.skip hf rfl rfl rfl (fun a hf => ?_)
                    refine D.val hf (v := .bool true) rfl rfl rfl (V.pure rfl) (fun a hf => ?_)
                    refine D.done (fun w hs => ?_)
                    refine X.then_ ?_
                    exact ⟨true, h, ((((((hf.nil.cons (hf.get 171 _ rfl)).cons (hf.get 126 _ rfl)).cons (hf.get 125 _ rfl)).cons (hf.get 124 _ rfl)).cons (hf.get 14 _ rfl)).cons (hf.get 12 _ rfl)), hs⟩
                  · replace h := h.2 hc
                    refine D.val hf (v := .slice y2A y2.length y2C) rfl rfl rfl (V.pure rfl) (fun a hf => ?_)
                    refine D.val hf (v := .int .i64 (k3 : Int)) rfl rfl rfl (V.pure rfl) (fun a hf => ?_)
                    refine D.val hf (v := elemPtr y2A (k3 * 3)) rfl rfl rfl (V.index rfl rfl rfl Tryd.runUnderlying43 Tryd.sizeOf52 (hs.ownSome 3 rfl (lt_of_get hx1)) (Int.natCast_nonneg _) (lt_of_get hx1) rfl) (fun a hf => ?_)
                    refine D.val hf (v := elemPtr y2A (k3 * 3 + 1)) rfl rfl rfl (V.fieldEl rfl rfl (hs.ownSome 3 rfl (lt_of_get hx1)) Tryd.runUnderlying52 rfl Tryd.sizeOf9 rfl rfl) (fun a hf => ?_)
                    refine D.val hf (v := .string (ba x1.Typ)) rfl rfl rfl (V.loadOwn (off := 1) 3 rfl hx1 rfl rfl rfl Tryd.isAgg9 Tryd.sizeOf9 rfl rfl) (fun a hf => ?_)
                    refine D.val hf (v := .pointer (some ⟨g1, 1, none⟩)) rfl rfl rfl (V.fieldBox rfl rfl Tryd.runUnderlying52 rfl Tryd.sizeOf9 rfl rfl) (fun a hf => ?_)
                    refine D.val hf (v := .string (ba xk3.Typ)) rfl rfl rfl (V.loadBox 0 rfl rfl rfl Tryd.isAgg9 Tryd.sizeOf9 rfl rfl) (fun a hf => ?_)
                    refine D.val hf (v := .bool (!(x1.Typ == xk3.Typ))) rfl rfl rfl (V.strCmp (!(x1.Typ == xk3.Typ)) rfl rfl rfl rfl) (fun a hf => ?_)
                    refine D.val hf (v := .bool (!(x1.Typ == xk3.Typ))) rfl rfl rfl (V.pure rfl) (fun a hf => ?_)
                    refine D.done (fun w hs => ?_)
                    refine X.then_ ?_
                    exact ⟨(!(x1.Typ == xk3.Typ)), h, ((((((hf.nil.cons (hf.get 171 _ rfl)).cons (hf.get 126 _ rfl)).cons (hf.get 125 _ rfl)).cons (hf.get 124 _ rfl)).cons (hf.get 14 _ rfl)).cons (hf.get 12 _ rfl)), hs⟩
        | cons xk2 llk2 =>
          have hltk2 := range_lt hkk2; have hc := range_go hkk2; have hxk2 := range_get hlk2
          obtain ⟨next1, hnext1⟩ : ∃ X : List Int → Prop, X = (fun l2 => forIn' (fun k x (s : List Int) next => M_law_PicksTake_L1 l r Q y2 k x s (fun l2 => next l2)) (fun (s : List Int) => (fun (l2 : List Int) => forIn' (fun k x (s : Unit) next => M_law_PicksTake_L2 Q y2 l2 k x (next ())) (fun (s : Unit) => M_awake  fun y5 => Q y5) r 0 ()) s) llk2 (k2 + 1) l2) := ⟨_, rfl⟩
          replace h : M_law_PicksTake_L1 l r Q y2 k2 xk2 l2 next1 := by rw [hnext1]; exact h
          unfold M_law_PicksTake_L1 at h
          refine wp_seq ?_
          refine R.list ?_
          refine S.val hf hs (v := .bool true) rfl rfl rfl (V.cmp true rfl rfl rfl rfl hc) (fun a hf => ?_)
          refine R.nil ?_
          refine X.then_ ?_
          refine wp_seq ?_
          refine C.yes hf rfl ?_
          refine wp_skip ?_
          refine X.then_ ?_
          refine wp_seq ?_
          refine wp_block ?_
          refine wp_seq ?_
          refine R.list ?_
          refine S.val hf hs (v := .int .i64 (k2 : Int)) rfl rfl rfl (V.pure rfl) (fun a hf => ?_)
          refine S.val hf hs (v := elemPtr y1A (k2 * 4)) rfl rfl rfl (V.index rfl rfl rfl Tryd.runUnderlying45 Tryd.sizeOf50 (hs.ownSome 1 rfl (lt_of_get hxk2)) (Int.natCast_nonneg _) (lt_of_get hxk2) rfl) (fun a hf => ?_)
          refine S.val hf hs (v := .agg #[.int .i64 xk2.Board, .string (ba xk2.Part), .string (ba xk2.Typ), .int .i64 xk2.Slot]) rfl rfl rfl (V.loadOwn (off := 0) 1 rfl hxk2 rfl rfl rfl Tryd.isAgg50 Tryd.sizeOf50 rfl rfl) (fun a hf => ?_)
          refine S.alloc hf hs rfl rfl rfl [.int .i64 0, .string (ba []), .string (ba []), .int .i64 0] rfl Tryd.zeroValue50 rfl (fun g2 a w hf hs => ?_)
          refine S.val hf hs (v := .int .i64 (k2 : Int)) rfl rfl rfl (V.pure rfl) (fun a hf => ?_)
          refine S.storeBox 0 hf hs rfl rfl [.int .i64 xk2.Board, .string (ba xk2.Part), .string (ba xk2.Typ), .int .i64 xk2.Slot] [.int .i64 xk2.Board, .string (ba xk2.Part), .string (ba xk2.Typ), .int .i64 xk2.Slot] rfl rfl rfl rfl rfl Tryd.sizeOf50 rfl rfl rfl rfl (fun a w hf hs => ?_)
          refine R.nil ?_
          refine X.then_ ?_
          refine wp_seq ?_
          refine wp_seq ?_
          refine C.cut (J := fun a w => ∃ (c3 : Bool), M_law_PicksTake_k5 r Q y2 xk2 l2 next1 c3 ∧ FrOk 174 [(1, .slice lA l.length lC), (2, .slice rA r.length rC), (12, .slice y2A y2.length y2C), (14, .slice l2A l2.length l2C), (16, .pointer (some ⟨g2, 0, none⟩)), (61, .slice y1A y1.length y1C), (62, .int .i64 (y1.length : Int)), (63, .int .i64 (k2 : Int)), (88, .bool c3)] a ∧ Sat w0 none_ [hbox g2 50 [.int .i64 xk2.Board, .string (ba xk2.Part), .string (ba xk2.Typ), .int .i64 xk2.Slot], hown 3 l2A l2C l2, hown 50 y1A y1C y1, hown 52 y2A y2C y2] w) ?_ ?_
          · rintro a w ⟨c3, h, hf, hs⟩
            unfold M_law_PicksTake_k5 at h
            refine C.cond hf (b := c3) rfl (fun hc => ?_) (fun hc => ?_)
            · replace h := h.1 hc
              refine wp_seq ?_
              refine R.list ?_
              refine S.val hf hs (v := .bool false) rfl rfl rfl (V.pure rfl) (fun a hf => ?_)
              refine R.nil ?_
              refine X.then_ ?_
              refine wp_ret ?_
              refine X.then_ret ?_
              refine X.blk_ret ?_
              refine X.then_ret ?_
              refine X.then_ret ?_
              refine X.blk_ret ?_
              refine X.then_ret ?_
              exact L.ret hf (run_results1 Tryd.results5 (ResIs.tmp hf rfl)) ⟨false, rfl, h, hs.nil⟩
            · replace h := h.2 hc
              refine wp_skip ?_
              refine X.then_ ?_
              refine wp_seq ?_
              refine wp_seq ?_
              refine R.list ?_
              refine S.val hf hs (v := .slice rA r.length rC) rfl rfl rfl (V.pure rfl) (fun a hf => ?_)
              refine S.val hf hs (v := .int .i64 (r.length : Int)) rfl rfl rfl (V.len rfl rfl Tryd.runUnderlying43) (fun a hf => ?_)
              refine S.val hf hs (v := .int .i64 0) rfl rfl rfl (V.pure rfl) (fun a hf => ?_)
              refine R.nil ?_
              refine X.then_ ?_
              refine wp_block ?_
              have hlenk6 := hv_r.len64
              refine C.range (fun (ll : List Reel) a w => ∃ (k6 : Nat) (l4 : List Int) (l4A : Option Addr) (l4C : Nat), r.drop k6 = ll ∧ k6 + ll.length = r.length ∧ forIn' (fun k x (s : List Int) next => M_law_PicksTake_L3 Q xk2 k x s (fun l4 => next l4)) (fun (s : List Int) => (fun (l4 : List Int) => cnd (xk2.Slot == 0) (M_ref10_Left y2 xk2.Typ fun y6 => M_law_PicksTake_k7 Q next1 l4 (decide (y6 > 0))) (M_law_PicksTake_k7 Q next1 l4 false)) s) ll k6 l4 ∧ FrOk 174 [(91, .int .i64 (k6 : Int)), (1, .slice lA l.length lC), (2, .slice rA r.length rC), (12, .slice y2A y2.length y2C), (14, .slice l4A l4.length l4C), (16, .pointer (some ⟨g2, 0, none⟩)), (61, .slice y1A y1.length y1C), (62, .int .i64 (y1.length : Int)), (63, .int .i64 (k2 : Int)), (89, .slice rA r.length rC), (90, .int .i64 (r.length : Int))] a ∧ Sat w0 none_ [hbox g2 50 [.int .i64 xk2.Board, .string (ba xk2.Part), .string (ba xk2.Typ), .int .i64 xk2.Slot], hown 3 l4A l4C l4, hown 50 y1A y1C y1, hown 52 y2A y2C y2] w) r ⟨0, l2, l2A, l2C, rfl, Nat.zero_add _, h, (((((((((((hf.nil.cons (hf.get 90 _ rfl)).cons (hf.get 89 _ rfl)).cons (hf.get 63 _ rfl)).cons (hf.get 62 _ rfl)).cons (hf.get 61 _ rfl)).cons (hf.get 16 _ rfl)).cons (hf.get 14 _ rfl)).cons (hf.get 12 _ rfl)).cons (hf.get 2 _ rfl)).cons (hf.get 1 _ rfl)).cons (hf.get 91 _ rfl)), hs⟩ ?_
              clear h hf hs
              rintro llk6 a w ⟨k6, l4, l4A, l4C, hlk6, hkk6, h, hf, hs⟩
              cases llk6 with
              | nil =>
                have hc := range_done hkk6
                replace h : (fun (l4 : List Int) => cnd (xk2.Slot == 0) (M_ref10_Left y2 xk2.Typ fun y6 => M_law_PicksTake_k7 Q next1 l4 (decide (y6 > 0))) (M_law_PicksTake_k7 Q next1 l4 false)) l4 := h
                refine wp_seq ?_
                refine R.list ?_
                refine S.val hf hs (v := .bool false) rfl rfl rfl (V.cmp false rfl rfl rfl rfl hc) (fun a hf => ?_)
                refine R.nil ?_
                refine X.then_ ?_
                refine wp_seq ?_
                refine C.no hf rfl ?_
                refine wp_exit ?_
                refine X.then_exit ?_
                refine X.then_exit ?_
                refine X.blk_exit ?_
                refine X.then_ ?_
                refine wp_seq ?_
                refine C.cut (J := fun a w => ∃ (c4 : Bool), M_law_PicksTake_k7 Q next1 l4 c4 ∧ FrOk 174 [(1, .slice lA l.length lC), (2, .slice rA r.length rC), (12, .slice y2A y2.length y2C), (14, .slice l4A l4.length l4C), (61, .slice y1A y1.length y1C), (62, .int .i64 (y1.length : Int)), (63, .int .i64 (k2 : Int)), (122, .bool c4)] a ∧ Sat w0 none_ [hbox g2 50 [.int .i64 xk2.Board, .string (ba xk2.Part), .string (ba xk2.Typ), .int .i64 xk2.Slot], hown 3 l4A l4C l4, hown 50 y1A y1C y1, hown 52 y2A y2C y2] w) ?_ ?_
                · rintro a w ⟨c4, h, hf, hs⟩
                  unfold M_law_PicksTake_k7 at h
                  refine C.cond hf (b := c4) rfl (fun hc => ?_) (fun hc => ?_)
                  · replace h := h.1 hc
                    refine wp_seq ?_
                    refine R.list ?_
                    refine S.val hf hs (v := .bool false) rfl rfl rfl (V.pure rfl) (fun a hf => ?_)
                    refine R.nil ?_
                    refine X.then_ ?_
                    refine wp_ret ?_
                    refine X.blk_ret ?_
                    refine X.then_ret ?_
                    refine X.then_ret ?_
                    refine X.blk_ret ?_
                    refine X.then_ret ?_
                    exact L.ret hf (run_results1 Tryd.results5 (ResIs.tmp hf rfl)) ⟨false, rfl, h, hs.nil⟩
                  · replace h := h.2 hc
                    refine wp_skip ?_
                    refine X.blk ?_
                    refine X.then_ ?_
                    refine R.list ?_
                    refine S.val hf hs (v := .int .i64 ((k2 + 1 : Nat) : Int)) rfl rfl rfl (V.incr rfl rfl rfl hltk2 hlenk2) (fun a hf => ?_)
                    refine S.val hf hs (v := .int .i64 ((k2 + 1 : Nat) : Int)) rfl rfl rfl (V.pure rfl) (fun a hf => ?_)
                    refine R.nil ?_
                    refine X.then_ ?_
                    exact ⟨xk2, llk2, rfl, k2 + 1, l4, l4A, l4C, range_drop hlk2, range_len hkk2, (by rw [hnext1] at h; exact h), (((((((hf.nil.cons (hf.get 62 _ rfl)).cons (hf.get 61 _ rfl)).cons (hf.get 14 _ rfl)).cons (hf.get 12 _ rfl)).cons (hf.get 2 _ rfl)).cons (hf.get 1 _ rfl)).cons (hf.get 63 _ rfl)), hs.drop⟩
                · skip
                  refine R.list ?_
                  refine S.val hf hs (v := .pointer (some ⟨g2, 3, none⟩)) rfl rfl rfl (V.fieldBox rfl rfl Tryd.runUnderlying50 rfl Tryd.sizeOf3 rfl rfl) (fun a hf => ?_)
                  refine S.val hf hs (v := .int .i64 xk2.Slot) rfl rfl rfl (V.loadBox 0 rfl rfl rfl Tryd.isAgg3 Tryd.sizeOf3 rfl rfl) (fun a hf => ?_)
                  refine S.val hf hs (v := .bool (xk2.Slot == 0)) rfl rfl rfl (V.pure rfl) (fun a hf => ?_)
                  refine S.split hf hs (b := xk2.Slot == 0) rfl rfl rfl (V.pure rfl) (fun hc a hf => ?_) (fun hc a hf => ?_)
                  · replace h := h.1 hc
                    refine S.val hf hs (v := .slice y2A y2.length y2C) rfl rfl rfl (V.pure rfl) (fun a hf => ?_)
                    refine S.val hf hs (v := .pointer (some ⟨g2, 2, none⟩)) rfl rfl rfl (V.fieldBox rfl rfl Tryd.runUnderlying50 rfl Tryd.sizeOf9 rfl rfl) (fun a hf => ?_)
                    refine S.val hf hs (v := .string (ba xk2.Typ)) rfl rfl rfl (V.loadBox 0 rfl rfl rfl Tryd.isAgg9 Tryd.sizeOf9 rfl rfl) (fun a hf => ?_)
                    refine S.call hf rfl rfl rfl (call_fn (vs := [.slice y2A y2.length y2C, .string (ba xk2.Typ)]) rfl rfl rfl Tryd.call20) (R_ref10_Left y2 xk2.Typ _ y2A y2C (hs.ownView 3 rfl) _ h) (fun v a w' hf hr => ?_)
                    obtain ⟨y6, rfl, h2, hs2⟩ := hr
                    replace h := h2; replace hs := hs.call hs2; clear h2 hs2
                    refine S.val hf hs (v := .bool (decide (y6 > 0))) rfl rfl rfl (V.pure rfl) (fun a hf => ?_)
                    refine S.val hf hs (v := .bool (decide (y6 > 0))) rfl rfl rfl (V.pure rfl) (fun a hf => ?_)
                    refine R.nil ?_
                    refine X.then_ ?_
                    exact ⟨(decide (y6 > 0)), h, ((((((((hf.nil.cons (hf.get 122 _ rfl)).cons (hf.get 63 _ rfl)).cons (hf.get 62 _ rfl)).cons (hf.get 61 _ rfl)).cons (hf.get 14 _ rfl)).cons (hf.get 12 _ rfl)).cons (hf.get 2 _ rfl)).cons (hf.get 1 _ rfl)), hs⟩
                  · replace h := h.2 hc
                    refine S.skip hf rfl rfl rfl (fun a hf => ?_)
                    refine S.skip hf rfl rfl rfl (fun a hf => ?_)
                    refine S.skip hf rfl rfl rfl (fun a hf => ?_)
                    refine S.skip hf rfl rfl rfl (fun a hf => ?_)
                    refine S.skip hf rfl rfl rfl (fun a hf => ?_)
                    refine S.val hf hs (v := .bool false) rfl rfl rfl (V.pure rfl) (fun a hf => ?_)
                    refine R.nil ?_
                    refine X.then_ ?_
                    exact ⟨false, h, ((((((((hf.nil.cons (hf.get 122 _ rfl)).cons (hf.get 63 _ rfl)).cons (hf.get 62 _ rfl)).cons (hf.get 61 _ rfl)).cons (hf.get 14 _ rfl)).cons (hf.get 12 _ rfl)).cons (hf.get 2 _ rfl)).cons (hf.get 1 _ rfl)), hs⟩
              | cons xk6 llk6 =>
                have hltk6 := range_lt hkk6; have hc := range_go hkk6; have hxk6 := range_get hlk6
                obtain ⟨next3, hnext3⟩ : ∃ X : List Int → Prop, X = (fun l4 => forIn' (fun k x (s : List Int) next => M_law_PicksTake_L3 Q xk2 k x s (fun l4 => next l4)) (fun (s : List Int) => (fun (l4 : List Int) => cnd (xk2.Slot == 0) (M_ref10_Left y2 xk2.Typ fun y6 => M_law_PicksTake_k7 Q next1 l4 (decide (y6 > 0))) (M_law_PicksTake_k7 Q next1 l4 false)) s) llk6 (k6 + 1) l4) := ⟨_, rfl⟩
                replace h : M_law_PicksTake_L3 Q xk2 k6 xk6 l4 next3 := by rw [hnext3]; exact h
                unfold M_law_PicksTake_L3 at h
                refine wp_seq ?_
                refine R.list ?_
                refine S.val hf hs (v := .bool true) rfl rfl rfl (V.cmp true rfl rfl rfl rfl hc) (fun a hf => ?_)
                refine R.nil ?_
                refine X.then_ ?_
                refine wp_seq ?_
                refine C.yes hf rfl ?_
                refine wp_skip ?_
                refine X.then_ ?_
                refine wp_seq ?_
                refine wp_block ?_
                refine wp_seq ?_
                refine R.list ?_
                refine S.val hf hs (v := .int .i64 (k6 : Int)) rfl rfl rfl (V.pure rfl) (fun a hf => ?_)
                refine S.val hf hs (v := elemPtr rA (k6 * 3)) rfl rfl rfl (V.index rfl rfl rfl Tryd.runUnderlying43 Tryd.sizeOf52 (hv_r.some_ (lt_of_get hxk6)) (Int.natCast_nonneg _) (lt_of_get hxk6) rfl) (fun a hf => ?_)
                refine S.val hf hs (v := .agg #[.int .i64 xk6.Slot, .string (ba xk6.Typ), .int .i64 xk6.Left]) rfl rfl rfl (V.loadEl (off := 0) (Ag.args _ _ _) (hv_r.flat hxk6) rfl rfl rfl Tryd.isAgg52 Tryd.sizeOf52 rfl rfl) (fun a hf => ?_)
                refine S.alloc hf hs rfl rfl rfl [.int .i64 0, .string (ba []), .int .i64 0] rfl Tryd.zeroValue52 rfl (fun g3 a w hf hs => ?_)
                refine S.val hf hs (v := .int .i64 (k6 : Int)) rfl rfl rfl (V.pure rfl) (fun a hf => ?_)
                refine S.storeBox 0 hf hs rfl rfl [.int .i64 xk6.Slot, .string (ba xk6.Typ), .int .i64 xk6.Left] [.int .i64 xk6.Slot, .string (ba xk6.Typ), .int .i64 xk6.Left] rfl rfl rfl rfl rfl Tryd.sizeOf52 rfl rfl rfl rfl (fun a w hf hs => ?_)
                refine R.nil ?_
                refine X.then_ ?_
                refine wp_seq ?_
                refine R.list ?_
                refine S.val hf hs (v := .pointer (some ⟨g3, 0, none⟩)) rfl rfl rfl (V.fieldBox rfl rfl Tryd.runUnderlying52 rfl Tryd.sizeOf3 rfl rfl) (fun a hf => ?_)
                refine S.val hf hs (v := .int .i64 xk6.Slot) rfl rfl rfl (V.loadBox 0 rfl rfl rfl Tryd.isAgg3 Tryd.sizeOf3 rfl rfl) (fun a hf => ?_)
                refine S.val hf hs (v := .pointer (some ⟨g2, 3, none⟩)) rfl rfl rfl (V.fieldBox rfl rfl Tryd.runUnderlying50 rfl Tryd.sizeOf3 rfl rfl) (fun a hf => ?_)
                refine S.val hf hs (v := .int .i64 xk2.Slot) rfl rfl rfl (V.loadBox 1 rfl rfl rfl Tryd.isAgg3 Tryd.sizeOf3 rfl rfl) (fun a hf => ?_)
                refine S.val hf hs (v := .bool (xk6.Slot == xk2.Slot)) rfl rfl rfl (V.pure rfl) (fun a hf => ?_)
                refine R.nil ?_
                refine X.then_ ?_
                refine C.cond hf (b := xk6.Slot == xk2.Slot) rfl (fun hc => ?_) (fun hc => ?_)
                · replace h := h.1 hc
                  refine wp_seq ?_
                  refine R.list ?_
                  refine S.val hf hs (v := .slice l4A l4.length l4C) rfl rfl rfl (V.pure rfl) (fun a hf => ?_)
                  refine S.val hf hs (v := .int .i64 (k6 : Int)) rfl rfl rfl (V.pure rfl) (fun a hf => ?_)
                  obtain ⟨h0x3, x3, hx3, h⟩ := h
                  refine S.val hf hs (v := elemPtr l4A (k6 * 1)) rfl rfl rfl (V.index rfl rfl rfl Tryd.runUnderlying48 Tryd.sizeOf3 (hs.ownSome 2 rfl (lt_of_get hx3)) (Int.natCast_nonneg _) (lt_of_get hx3) rfl) (fun a hf => ?_)
                  refine S.val hf hs (v := .int .i64 x3) rfl rfl rfl (V.loadOwn (off := 0) 2 rfl hx3 rfl rfl rfl Tryd.isAgg3 Tryd.sizeOf3 rfl rfl) (fun a hf => ?_)
                  refine S.val hf hs (v := .int .i64 (w64 (x3 + 1))) rfl rfl rfl (V.pure rfl) (fun a hf => ?_)
                  refine S.val hf hs (v := elemPtr l4A (k6 * 1)) rfl rfl rfl (V.index rfl rfl rfl Tryd.runUnderlying48 Tryd.sizeOf3 (hs.ownSome 2 rfl (lt_of_get hx3)) (Int.natCast_nonneg _) (lt_of_get hx3) rfl) (fun a hf => ?_)
                  refine S.storeOwn (off := 0) 2 hf hs rfl rfl (w64 (x3 + 1)) [.int .i64 (w64 (x3 + 1))] rfl hx3 rfl rfl rfl rfl rfl Tryd.sizeOf3 rfl (by decide) rfl rfl (fun a w hf hs => ?_)
                  replace hf := hf.tell 14 (v := .slice l4A (l4.set k6 (w64 (x3 + 1))).length l4C) ((hf.get 14 (.slice l4A l4.length l4C) rfl).trans (congrArg (fun n => Value.slice l4A n l4C) List.length_set.symm))
                  replace hf := hf.tell 101 (v := .slice l4A (l4.set k6 (w64 (x3 + 1))).length l4C) ((hf.get 101 (.slice l4A l4.length l4C) rfl).trans (congrArg (fun n => Value.slice l4A n l4C) List.length_set.symm))
                  refine R.nil ?_
                  refine X.then_ ?_
                  refine wp_seq ?_
                  refine R.list ?_
                  refine S.val hf hs (v := .pointer (some ⟨g3, 1, none⟩)) rfl rfl rfl (V.fieldBox rfl rfl Tryd.runUnderlying52 rfl Tryd.sizeOf9 rfl rfl) (fun a hf => ?_)
                  refine S.val hf hs (v := .string (ba xk6.Typ)) rfl rfl rfl (V.loadBox 0 rfl rfl rfl Tryd.isAgg9 Tryd.sizeOf9 rfl rfl) (fun a hf => ?_)
                  refine S.val hf hs (v := .pointer (some ⟨g2, 2, none⟩)) rfl rfl rfl (V.fieldBox rfl rfl Tryd.runUnderlying50 rfl Tryd.sizeOf9 rfl rfl) (fun a hf => ?_)
                  refine S.val hf hs (v := .string (ba xk2.Typ)) rfl rfl rfl (V.loadBox 1 rfl rfl rfl Tryd.isAgg9 Tryd.sizeOf9 rfl rfl) (fun a hf => ?_)
                  refine S.val hf hs (v := .bool (!(xk6.Typ == xk2.Typ))) rfl rfl rfl (V.strCmp (!(xk6.Typ == xk2.Typ)) rfl rfl rfl rfl) (fun a hf => ?_)
                  refine R.nil ?_
                  refine X.then_ ?_
                  refine C.cond hf (b := !(xk6.Typ == xk2.Typ)) rfl (fun hc => ?_) (fun hc => ?_)
                  · replace h := h.1 hc
                    refine wp_seq ?_
                    refine R.list ?_
                    refine S.val hf hs (v := .bool false) rfl rfl rfl (V.pure rfl) (fun a hf => ?_)
                    refine R.nil ?_
                    refine X.then_ ?_
                    refine wp_ret ?_
                    refine X.blk_ret ?_
                    refine X.then_ret ?_
                    refine X.then_ret ?_
                    refine X.blk_ret ?_
                    refine X.then_ret ?_
                    refine X.blk_ret ?_
                    refine X.then_ret ?_
                    refine X.then_ret ?_
                    refine X.blk_ret ?_
                    refine X.then_ret ?_
                    exact L.ret hf (run_results1 Tryd.results5 (ResIs.tmp hf rfl)) ⟨false, rfl, h, hs.nil⟩
                  · replace h := h.2 hc
                    refine wp_skip ?_
                    refine X.blk ?_
                    refine X.then_ ?_
                    refine R.list ?_
                    refine S.val hf hs (v := .int .i64 ((k6 + 1 : Nat) : Int)) rfl rfl rfl (V.incr rfl rfl rfl hltk6 hlenk6) (fun a hf => ?_)
                    refine S.val hf hs (v := .int .i64 ((k6 + 1 : Nat) : Int)) rfl rfl rfl (V.pure rfl) (fun a hf => ?_)
                    refine R.nil ?_
                    refine X.then_ ?_
                    exact ⟨xk6, llk6, rfl, k6 + 1, (l4.set k6 (w64 (x3 + 1))), l4A, l4C, range_drop hlk6, range_len hkk6, (by rw [hnext3] at h; exact h), (((((((((((hf.nil.cons (hf.get 90 _ rfl)).cons (hf.get 89 _ rfl)).cons (hf.get 63 _ rfl)).cons (hf.get 62 _ rfl)).cons (hf.get 61 _ rfl)).cons (hf.get 16 _ rfl)).cons (hf.get 14 _ rfl)).cons (hf.get 12 _ rfl)).cons (hf.get 2 _ rfl)).cons (hf.get 1 _ rfl)).cons (hf.get 91 _ rfl)), hs.drop⟩
                · replace h := h.2 hc
                  refine wp_skip ?_
                  refine X.blk ?_
                  refine X.then_ ?_
                  refine R.list ?_
                  refine S.val hf hs (v := .int .i64 ((k6 + 1 : Nat) : Int)) rfl rfl rfl (V.incr rfl rfl rfl hltk6 hlenk6) (fun a hf => ?_)
                  refine S.val hf hs (v := .int .i64 ((k6 + 1 : Nat) : Int)) rfl rfl rfl (V.pure rfl) (fun a hf => ?_)
                  refine R.nil ?_
                  refine X.then_ ?_
                  exact ⟨xk6, llk6, rfl, k6 + 1, l4, l4A, l4C, range_drop hlk6, range_len hkk6, (by rw [hnext3] at h; exact h), (((((((((((hf.nil.cons (hf.get 90 _ rfl)).cons (hf.get 89 _ rfl)).cons (hf.get 63 _ rfl)).cons (hf.get 62 _ rfl)).cons (hf.get 61 _ rfl)).cons (hf.get 16 _ rfl)).cons (hf.get 14 _ rfl)).cons (hf.get 12 _ rfl)).cons (hf.get 2 _ rfl)).cons (hf.get 1 _ rfl)).cons (hf.get 91 _ rfl)), hs.drop⟩
          · skip
            refine R.draw mo (by kernel_rfl) hs ?_
            refine D.val hf (v := .pointer (some ⟨g2, 0, none⟩)) rfl rfl rfl (V.fieldBox rfl rfl Tryd.runUnderlying50 rfl Tryd.sizeOf3 rfl rfl) (fun a hf => ?_)
            refine D.val hf (v := .int .i64 xk2.Board) rfl rfl rfl (V.loadBox 0 rfl rfl rfl Tryd.isAgg3 Tryd.sizeOf3 rfl rfl) (fun a hf => ?_)
            refine D.val hf (v := .int .i64 (k2 : Int)) rfl rfl rfl (V.pure rfl) (fun a hf => ?_)
            refine D.val hf (v := .slice lA l.length lC) rfl rfl rfl (V.pure rfl) (fun a hf => ?_)
            refine D.val hf (v := .int .i64 (l.length : Int)) rfl rfl rfl (V.len rfl rfl Tryd.runUnderlying23) (fun a hf => ?_)
            obtain ⟨hne, h⟩ := h
            refine D.val hf (v := .int .i64 (w64 ((k2 : Int).tdiv (l.length : Int)))) rfl rfl rfl (V.quo rfl rfl rfl hne) (fun a hf => ?_)
            refine D.val hf (v := .int .i64 (w64 ((w64 ((k2 : Int).tdiv (l.length : Int))) + 1))) rfl rfl rfl (V.pure rfl) (fun a hf => ?_)
            refine D.val hf (v := .bool (xk2.Board != (w64 ((w64 ((k2 : Int).tdiv (l.length : Int))) + 1)))) rfl rfl rfl (V.pure rfl) (fun a hf => ?_)
            refine D.split hf (b := xk2.Board != (w64 ((w64 ((k2 : Int).tdiv (l.length : Int))) + 1))) rfl rfl rfl (V.pure rfl) (fun hc a hf => ?_) (fun hc a hf => ?_)
            · replace h := h.1 hc
              refine D.skip hf rfl rfl rfl (fun a hf => ?_)
              refine D.skip hf rfl rfl rfl (fun a hf => ?_)
              refine D.skip hf rfl rfl rfl (fun a hf => ?_)
              refine D.skip hf rfl rfl rfl (fun a hf => ?_)
              refine D.skip hf rfl rfl rfl (fun a hf => ?_)
              refine D.skip hf rfl rfl rfl (fun a hf => ?_)
              refine D.skip hf rfl rfl rfl (fun a hf => ?_)
              refine D.skip hf rfl rfl rfl (fun a hf => ?_)
              refine D.skip hf rfl rfl rfl (fun a hf => ?_)
              refine D.skip hf rfl rfl rfl (fun a hf => ?_)
              refine D.skip hf rfl rfl rfl (fun a hf => ?_)
              refine D.val hf (v := .bool true) rfl rfl rfl (V.pure rfl) (fun a hf => ?_)
              refine D.done (fun w hs => ?_)
              refine X.then_ ?_
              exact ⟨true, h, (((((((((hf.nil.cons (hf.get 88 _ rfl)).cons (hf.get 63 _ rfl)).cons (hf.get 62 _ rfl)).cons (hf.get 61 _ rfl)).cons (hf.get 16 _ rfl)).cons (hf.get 14 _ rfl)).cons (hf.get 12 _ rfl)).cons (hf.get 2 _ rfl)).cons (hf.get 1 _ rfl)), hs⟩
            · replace h := h.2 hc
              refine D.val hf (v := .pointer (some ⟨g2, 1, none⟩)) rfl rfl rfl (V.fieldBox rfl rfl Tryd.runUnderlying50 rfl Tryd.sizeOf9 rfl rfl) (fun a hf => ?_)
              refine D.val hf (v := .string (ba xk2.Part)) rfl rfl rfl (V.loadBox 0 rfl rfl rfl Tryd.isAgg9 Tryd.sizeOf9 rfl rfl) (fun a hf => ?_)
              refine D.val hf (v := .slice lA l.length lC) rfl rfl rfl (V.pure rfl) (fun a hf => ?_)
              refine D.val hf (v := .int .i64 (k2 : Int)) rfl rfl rfl (V.pure rfl) (fun a hf => ?_)
              refine D.val hf (v := .slice lA l.length lC) rfl rfl rfl (V.pure rfl) (fun a hf => ?_)
              refine D.val hf (v := .int .i64 (l.length : Int)) rfl rfl rfl (V.len rfl rfl Tryd.runUnderlying23) (fun a hf => ?_)
              obtain ⟨hne, h⟩ := h
              refine D.val hf (v := .int .i64 ((k2 : Int).tmod (l.length : Int))) rfl rfl rfl (V.rem rfl rfl rfl hne) (fun a hf => ?_)
              obtain ⟨h0x4, x4, hx4, h⟩ := h
              refine D.val hf (v := elemPtr lA (((k2 : Int).tmod (l.length : Int)).toNat * 6)) rfl rfl rfl (V.index rfl rfl rfl Tryd.runUnderlying23 Tryd.sizeOf28 (hv_l.some_ (lt_of_get hx4)) h0x4 (lt_of_get hx4) rfl) (fun a hf => ?_)
              refine D.val hf (v := elemPtr lA (((k2 : Int).tmod (l.length : Int)).toNat * 6)) rfl rfl rfl (V.fieldEl rfl rfl (hv_l.some_ (lt_of_get hx4)) Tryd.runUnderlying28 rfl Tryd.sizeOf9 rfl rfl) (fun a hf => ?_)
              refine D.val hf (v := .string (ba x4.Part)) rfl rfl rfl (V.loadEl (off := 0) (Ag.args _ _ _) (hv_l.flat hx4) rfl rfl rfl Tryd.isAgg9 Tryd.sizeOf9 rfl rfl) (fun a hf => ?_)
              refine D.val hf (v := .bool (!(xk2.Part == x4.Part))) rfl rfl rfl (V.strCmp (!(xk2.Part == x4.Part)) rfl rfl rfl rfl) (fun a hf => ?_)
              refine D.val hf (v := .bool (!(xk2.Part == x4.Part))) rfl rfl rfl (V.pure rfl) (fun a hf => ?_)
              refine D.done (fun w hs => ?_)
              refine X.then_ ?_
              exact ⟨(!(xk2.Part == x4.Part)), h, (((((((((hf.nil.cons (hf.get 88 _ rfl)).cons (hf.get 63 _ rfl)).cons (hf.get 62 _ rfl)).cons (hf.get 61 _ rfl)).cons (hf.get 16 _ rfl)).cons (hf.get 14 _ rfl)).cons (hf.get 12 _ rfl)).cons (hf.get 2 _ rfl)).cons (hf.get 1 _ rfl)), hs⟩
    · skip
      refine R.list ?_
      refine S.val hf hs (v := .slice y1A y1.length y1C) rfl rfl rfl (V.pure rfl) (fun a hf => ?_)
      refine S.val hf hs (v := .int .i64 (y1.length : Int)) rfl rfl rfl (V.len rfl rfl Tryd.runUnderlying45) (fun a hf => ?_)
      refine S.val hf hs (v := .slice lA l.length lC) rfl rfl rfl (V.pure rfl) (fun a hf => ?_)
      refine S.val hf hs (v := .int .i64 (l.length : Int)) rfl rfl rfl (V.len rfl rfl Tryd.runUnderlying23) (fun a hf => ?_)
      refine S.val hf hs (v := .int .i64 boards) rfl rfl rfl (V.pure rfl) (fun a hf => ?_)
      refine S.val hf hs (v := .int .i64 (w64 ((l.length : Int) * boards))) rfl rfl rfl (V.pure rfl) (fun a hf => ?_)
      refine S.val hf hs (v := .bool ((y1.length : Int) != (w64 ((l.length : Int) * boards)))) rfl rfl rfl (V.pure rfl) (fun a hf => ?_)
      refine S.split hf hs (b := (y1.length : Int) != (w64 ((l.length : Int) * boards))) rfl rfl rfl (V.pure rfl) (fun hc a hf => ?_) (fun hc a hf => ?_)
      · replace h := h.1 hc
        refine S.skip hf rfl rfl rfl (fun a hf => ?_)
        refine S.skip hf rfl rfl rfl (fun a hf => ?_)
        refine S.skip hf rfl rfl rfl (fun a hf => ?_)
        refine S.skip hf rfl rfl rfl (fun a hf => ?_)
        refine S.skip hf rfl rfl rfl (fun a hf => ?_)
        refine S.val hf hs (v := .bool true) rfl rfl rfl (V.pure rfl) (fun a hf => ?_)
        refine R.nil ?_
        refine X.then_ ?_
        exact ⟨true, h, (((((hf.nil.cons (hf.get 57 _ rfl)).cons (hf.get 12 _ rfl)).cons (hf.get 11 _ rfl)).cons (hf.get 2 _ rfl)).cons (hf.get 1 _ rfl)), hs⟩
      · replace h := h.2 hc
        refine S.val hf hs (v := .slice y2A y2.length y2C) rfl rfl rfl (V.pure rfl) (fun a hf => ?_)
        refine S.val hf hs (v := .int .i64 (y2.length : Int)) rfl rfl rfl (V.len rfl rfl Tryd.runUnderlying43) (fun a hf => ?_)
        refine S.val hf hs (v := .slice rA r.length rC) rfl rfl rfl (V.pure rfl) (fun a hf => ?_)
        refine S.val hf hs (v := .int .i64 (r.length : Int)) rfl rfl rfl (V.len rfl rfl Tryd.runUnderlying43) (fun a hf => ?_)
        refine S.val hf hs (v := .bool ((y2.length : Int) != (r.length : Int))) rfl rfl rfl (V.pure rfl) (fun a hf => ?_)
        refine S.val hf hs (v := .bool ((y2.length : Int) != (r.length : Int))) rfl rfl rfl (V.pure rfl) (fun a hf => ?_)
        refine R.nil ?_
        refine X.then_ ?_
        exact ⟨((y2.length : Int) != (r.length : Int)), h, (((((hf.nil.cons (hf.get 57 _ rfl)).cons (hf.get 12 _ rfl)).cons (hf.get 11 _ rfl)).cons (hf.get 2 _ rfl)).cons (hf.get 1 _ rfl)), hs⟩

end Go.Proofs.YtcmlcgjjkccaeaaDoor

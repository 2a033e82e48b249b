/- Chapter 7: the law that trees join: the walks. -/
import Derived.Test.YtihjaehkdgdenaaRtY
import Derived.Test.YtihjaehkdgdenaaRtG2
namespace Go.Proofs.Ytihjaehkdgdenaa
open Go Go.RowKit
set_option linter.unusedVariables false

set_option linter.unusedVariables false
def M_index_bool_L1 (v_ : Bool) (Q : Int → Prop) (k1 : Nat) (xk1 : Bool)  (next1 : Prop) : Prop :=
  cnd (v_ == xk1) (Q (k1 : Int)) (next1)
def M_index_bool (s_ : (List Bool)) (v_ : Bool) (Q : Int → Prop) : Prop :=
  forIn' (fun k x (s : Unit) next => M_index_bool_L1 v_ Q k x (next ())) (fun (s : Unit) => Q (-1)) s_ 0 ()
set_option maxHeartbeats 1000000 in
theorem R_index_bool (s_ : (List Bool)) (v_ : Bool) (w0 : World) (s_A : Option Addr) (s_C : Nat) (hv_s_ : View w0 (old w0 none_) s_A s_C s_) (Q : Int → Prop) (h : M_index_bool s_ v_ Q) :
    Ret Try.prog 99 #[.slice s_A s_.length s_C, .bool v_] w0 fun v w' => ∃ (r0 : Int), v = iv r0 ∧ Q r0 ∧ Sat w0 none_ [] w' := by
  refine fn_enter Try.func99 rfl Try.ntmps99 rfl (fs := [(0, .slice s_A s_.length s_C), (1, .bool v_)]) rfl (fun a hf => ?_)
  have hs := Sat.start w0 none_
  unfold M_index_bool at h
  refine wp_seq ?_
  refine R.list ?_
  refine S.p hf hs (iv 0) rfl rfl fun a hf => ?_
  refine R.nil ?_
  refine X.then_ ?_
  refine wp_seq ?_
  refine wp_seq ?_
  refine R.list ?_
  refine S.p hf hs (.slice s_A s_.length s_C) rfl rfl fun a hf => ?_
  refine S.v hf hs (iv (s_.length : Int)) rfl (V.len rfl rfl Try.runUnderlying66) fun a hf => ?_
  refine S.p hf hs (iv 0) rfl rfl fun a hf => ?_
  refine R.nil ?_
  refine X.then_ ?_
  refine wp_block ?_
  have hlenk1 := hv_s_.len64
  refine C.range (fun (ll : List Bool) a w => ∃ (k1 : Nat) , s_.drop k1 = ll ∧ k1 + ll.length = s_.length ∧ forIn' (fun k x (s : Unit) next => M_index_bool_L1 v_ Q k x (next ())) (fun (s : Unit) => Q (-1)) ll k1 () ∧ FrOk 19 [(8, iv (k1 : Int)), (0, .slice s_A s_.length s_C), (1, .bool v_), (7, iv (s_.length : Int))] a ∧ Sat w0 none_ [] w) s_ ⟨0, rfl, Nat.zero_add _, h, ((((hf.nil.cons (hf.get 7 _ rfl)).cons (hf.get 1 _ rfl)).cons (hf.get 0 _ rfl)).cons (hf.get 8 _ rfl)), hs⟩ ?_
  clear h hf hs
  rintro llk1 a w ⟨k1, hlk1, hkk1, h, hf, hs⟩
  cases llk1 with
  | nil =>
    have hc := range_done hkk1
    replace h : Q (-1) := h
    refine wp_seq ?_
    refine R.list ?_
    refine S.v hf hs (.bool false) rfl (V.cmp false rfl rfl rfl rfl hc) fun a hf => ?_
    refine R.nil ?_
    refine X.then_ ?_
    refine wp_seq ?_
    refine C.no hf rfl ?_
    refine wp_exit ?_
    refine X.then_exit ?_
    refine X.then_exit ?_
    refine X.blk_exit ?_
    refine X.then_ ?_
    refine wp_seq ?_
    refine R.list ?_
    refine S.p hf hs (iv (-1)) rfl rfl fun a hf => ?_
    refine R.nil ?_
    refine X.then_ ?_
    refine wp_ret ?_
    exact L.ret hf (run_results1 Try.results99 (ResIs.tmp hf rfl)) ⟨(-1), rfl, h, hs.nil⟩
  | cons xk1 llk1 =>
    have hltk1 := range_lt hkk1; have hc := range_go hkk1; have hxk1 := range_get hlk1
    obtain ⟨next1, hnext1⟩ : ∃ X : Prop, X = (forIn' (fun k x (s : Unit) next => M_index_bool_L1 v_ Q k x (next ())) (fun (s : Unit) => Q (-1)) llk1 (k1 + 1) ()) := ⟨_, rfl⟩
    replace h : M_index_bool_L1 v_ Q k1 xk1  next1 := by rw [hnext1]; exact h
    unfold M_index_bool_L1 at h
    refine wp_seq ?_
    refine R.list ?_
    refine S.v hf hs (.bool true) rfl (V.cmp true rfl rfl rfl rfl hc) fun a hf => ?_
    refine R.nil ?_
    refine X.then_ ?_
    refine wp_seq ?_
    refine C.yes hf rfl ?_
    refine wp_skip ?_
    refine X.then_ ?_
    refine wp_seq ?_
    refine wp_block ?_
    refine wp_seq ?_
    refine R.list ?_
    refine S.p hf hs (iv (k1 : Int)) rfl rfl fun a hf => ?_
    refine S.p hf hs (iv (k1 : Int)) rfl rfl fun a hf => ?_
    refine R.nil ?_
    refine X.then_ ?_
    refine wp_seq ?_
    refine R.list ?_
    refine S.p hf hs (.bool v_) rfl rfl fun a hf => ?_
    refine S.p hf hs (.slice s_A s_.length s_C) rfl rfl fun a hf => ?_
    refine S.p hf hs (iv (k1 : Int)) rfl rfl fun a hf => ?_
    refine S.v hf hs (elemPtr s_A (k1 * 1)) rfl (V.index rfl rfl rfl Try.runUnderlying66 Try.sizeOf4 (hv_s_.some_ (lt_of_get hxk1)) (Int.natCast_nonneg _) (lt_of_get hxk1) rfl) fun a hf => ?_
    refine S.v hf hs (.bool xk1) rfl (V.loadEl (off := 0) (Ag.args _ _ _) (hv_s_.flat hxk1) rfl rfl rfl Try.isAgg4 Try.sizeOf4 rfl rfl) fun a hf => ?_
    refine S.v hf hs (.bool (v_ == xk1)) rfl (V.boolEq rfl rfl rfl Try.underlying4 rfl) fun a hf => ?_
    refine R.nil ?_
    refine X.then_ ?_
    refine C.cond hf (b := v_ == xk1) rfl (fun hc => ?_) (fun hc => ?_)
    · replace h := h.1 hc
      refine wp_seq ?_
      refine R.list ?_
      refine S.p hf hs (iv (k1 : Int)) rfl rfl fun a hf => ?_
      refine S.p hf hs (iv (k1 : Int)) rfl rfl fun a hf => ?_
      refine R.nil ?_
      refine X.then_ ?_
      refine wp_ret ?_
      refine X.blk_ret ?_
      refine X.then_ret ?_
      refine X.then_ret ?_
      refine X.blk_ret ?_
      refine X.then_ret ?_
      exact L.ret hf (run_results1 Try.results99 (ResIs.tmp hf rfl)) ⟨(k1 : Int), rfl, h, hs.nil⟩
    · replace h := h.2 hc
      refine wp_skip ?_
      refine X.blk ?_
      refine X.then_ ?_
      refine R.list ?_
      refine S.v hf hs (iv ((k1 + 1 : Nat) : Int)) rfl (V.incr rfl rfl rfl hltk1 hlenk1) fun a hf => ?_
      refine S.p hf hs (iv ((k1 + 1 : Nat) : Int)) rfl rfl fun a hf => ?_
      refine R.nil ?_
      refine X.then_ ?_
      exact ⟨xk1, llk1, rfl, k1 + 1, range_drop hlk1, range_len hkk1, (by rw [hnext1] at h; exact h), ((((hf.nil.cons (hf.get 7 _ rfl)).cons (hf.get 1 _ rfl)).cons (hf.get 0 _ rfl)).cons (hf.get 8 _ rfl)), hs⟩

set_option linter.unusedVariables false
def M_contains_bool (s_ : (List Bool)) (v_ : Bool) (Q : Bool → Prop) : Prop :=
  M_index_bool s_ v_ fun y1 => Q (decide (y1 ≥ 0))
set_option maxHeartbeats 1000000 in
theorem R_contains_bool (s_ : (List Bool)) (v_ : Bool) (w0 : World) (s_A : Option Addr) (s_C : Nat) (hv_s_ : View w0 (old w0 none_) s_A s_C s_) (Q : Bool → Prop) (h : M_contains_bool s_ v_ Q) :
    Ret Try.prog 87 #[.slice s_A s_.length s_C, .bool v_] w0 fun v w' => ∃ (r0 : Bool), v = .bool r0 ∧ Q r0 ∧ Sat w0 none_ [] w' := by
  refine fn_enter Try.func87 rfl Try.ntmps87 rfl (fs := [(0, .slice s_A s_.length s_C), (1, .bool v_)]) rfl (fun a hf => ?_)
  have hs := Sat.start w0 none_
  unfold M_contains_bool at h
  refine wp_seq ?_
  refine R.list ?_
  refine S.p hf hs (.bool false) rfl rfl fun a hf => ?_
  refine R.nil ?_
  refine X.then_ ?_
  refine wp_seq ?_
  refine R.list ?_
  refine S.p hf hs (.slice s_A s_.length s_C) rfl rfl fun a hf => ?_
  refine S.p hf hs (.bool v_) rfl rfl fun a hf => ?_
  refine S.call hf rfl rfl rfl (call_fn (vs := [.slice s_A s_.length s_C, .bool v_]) rfl rfl rfl Try.call99) (R_index_bool s_ v_ _ s_A s_C ((Ag.args _ _ _).view hv_s_ hs) _ h) (fun v a w' hf hr => ?_)
  obtain ⟨y1, rfl, h2, hs2⟩ := hr
  replace h := h2; replace hs := hs.call hs2; clear h2 hs2
  refine S.p hf hs (.bool (decide (y1 ≥ 0))) rfl rfl fun a hf => ?_
  refine S.p hf hs (.bool (decide (y1 ≥ 0))) rfl rfl fun a hf => ?_
  refine R.nil ?_
  refine X.then_ ?_
  refine wp_ret ?_
  exact L.ret hf (run_results1 Try.results87 (ResIs.tmp hf rfl)) ⟨(decide (y1 ≥ 0)), rfl, h, hs.nil⟩

set_option linter.unusedVariables false
def M_ref7_hangs_L3 (k2 : Nat) (l8 : List Cell) (k3 : Nat) (xk3 : Cell) (l10 : List Bool) (next3 : List Bool → Prop) : Prop :=
  idx l10 (k2 : Int) fun x4 => cnd x4 (next3 (l10.set k2 true)) (M_contains_cell l8 xk3 fun y1 => next3 (l10.set k2 y1))
def M_ref7_hangs_L2  (k2 : Nat) (xk2 : (List Cell)) (l7 : List Bool) (l8 : List Cell) (c4 : Bool) (next2 : List Bool → List Cell → Bool → Prop) : Prop :=
  idx l7 (k2 : Int) fun x2 => cnd x2 (next2 l7 l8 c4) (forIn' (fun k x (s : List Bool) next => M_ref7_hangs_L3 k2 l8 k x s (fun l10 => next l10)) (fun (s : List Bool) => (fun (l10 : List Bool) => idx l10 (k2 : Int) fun x3 => cnd x3 (must (room (l8 ++ xk2).length 24) (next2 l10 (l8 ++ xk2) true)) (next2 l10 l8 c4)) s) xk2 0 l7)
def M_ref7_hangs_L4 (Q : Bool → Prop) (l4 : List Cell) (k4 : Nat) (xk4 : Cell)  (next4 : Prop) : Prop :=
  M_contains_cell l4 xk4 fun y3 => cnd (!y3) (Q false) (next4)
def M_ref7_hangs_L1 (pins : (List Cell)) (ways : (List (List Cell))) (Q : Bool → Prop) (again1 : List Bool → List Cell → Bool → Prop) (l3 : List Bool) (l4 : List Cell) (c2 : Bool) : Prop :=
  cnd c2 (forIn' (fun k x (s : List Bool × List Cell × Bool) next => M_ref7_hangs_L2 k x s.1 s.2.1 s.2.2 (fun l7 l8 c4 => next (l7, l8, c4))) (fun (s : List Bool × List Cell × Bool) => (fun (l7 : List Bool) (l8 : List Cell) (c4 : Bool) => again1 l7 l8 c4) s.1 s.2.1 s.2.2) ways 0 (l3, l4, false)) (forIn' (fun k x (s : Unit) next => M_ref7_hangs_L4 Q l4 k x (next ())) (fun (s : Unit) => M_contains_bool l3 false fun y2 => Q (!y2)) pins 0 ())
def M_ref7_hangs (pins : (List Cell)) (ways : (List (List Cell))) (Q : Bool → Prop) : Prop :=
  idx pins 0 fun x1 => must (0 ≤ (ways.length : Int) ∧ (ways.length : Int) * 1 ≤ 281474976710656) (lp (fun again (s : List Bool × List Cell × Bool) => M_ref7_hangs_L1 pins ways Q (fun l3 l4 c2 => again (l3, l4, c2)) s.1 s.2.1 s.2.2) ((List.replicate ways.length false), [x1], true))
set_option maxHeartbeats 1000000 in
theorem R_ref7_hangs (pins : (List Cell)) (ways : (List (List Cell))) (w0 : World) (pinsA : Option Addr) (pinsC : Nat) (hv_pins : View w0 (old w0 none_) pinsA pinsC pins) (waysA : Option Addr) (waysC : Nat) (hv_ways : View w0 (old w0 none_) waysA waysC ways) (Q : Bool → Prop) (h : M_ref7_hangs pins ways Q) :
    Ret Try.prog 66 #[.slice pinsA pins.length pinsC, .slice waysA ways.length waysC] w0 fun v w' => ∃ (r0 : Bool), v = .bool r0 ∧ Q r0 ∧ Sat w0 none_ [] w' := by
  refine fn_enter Try.func66 rfl Try.ntmps66 rfl (fs := [(0, .slice pinsA pins.length pinsC), (1, .slice waysA ways.length waysC)]) rfl (fun a hf => ?_)
  have hs := Sat.start w0 none_
  unfold M_ref7_hangs at h
  refine wp_seq ?_
  refine R.list ?_
  refine S.p hf hs (.bool false) rfl rfl fun a hf => ?_
  refine R.nil ?_
  refine X.then_ ?_
  refine wp_seq ?_
  refine R.list ?_
  refine S.p hf hs (.slice pinsA pins.length pinsC) rfl rfl fun a hf => ?_
  obtain ⟨h0x1, x1, hx1, h⟩ := h
  refine S.v hf hs (elemPtr pinsA (0 * 3)) rfl (V.index rfl rfl rfl Try.runUnderlying22 Try.sizeOf28 (hv_pins.some_ (lt_of_get hx1)) h0x1 (lt_of_get hx1) rfl) fun a hf => ?_
  refine S.v hf hs (.agg #[iv x1.X, iv x1.Y, iv x1.Layer]) rfl (V.loadEl (off := 0) (Ag.args _ _ _) (hv_pins.flat hx1) rfl rfl rfl Try.isAgg28 Try.sizeOf28 rfl rfl) fun a hf => ?_
  refine S.build1 hf hs rfl rfl rfl (α := Cell) x1 rfl rfl rfl Try.runUnderlying22 Try.sizeOf28 Try.zeroValue28 rfl (by decide) (fun A1 a w hf hs => ?_)
  refine S.p hf hs (.slice A1 [x1].length 1) rfl rfl fun a hf => ?_
  refine R.nil ?_
  refine X.then_ ?_
  refine wp_seq ?_
  refine R.list ?_
  refine S.p hf hs (.slice waysA ways.length waysC) rfl rfl fun a hf => ?_
  refine S.v hf hs (iv (ways.length : Int)) rfl (V.len rfl rfl Try.runUnderlying47) fun a hf => ?_
  obtain ⟨hmk, h⟩ := h
  refine S.make hf hs rfl rfl rfl (α := Bool) false (z := (ways.length : Int)) (N := ways.length) rfl rfl rfl Try.underlying66 info4 hmk rfl (by have := hmk.2; omega) (fun A2 a w hf hs => ?_)
  refine S.p hf hs (.slice A2 (List.replicate ways.length false).length ways.length) rfl rfl fun a hf => ?_
  refine R.nil ?_
  refine X.then_ ?_
  refine wp_seq ?_
  refine wp_seq ?_
  refine R.list ?_
  refine S.p hf hs (.bool true) rfl rfl fun a hf => ?_
  refine R.nil ?_
  refine X.then_ ?_
  refine wp_block ?_
  obtain ⟨kk, h⟩ := h
  refine C.loop (fun kk a w => ∃ (l3 : List Bool) (l3A : Option Addr) (l3C : Nat) (l4 : List Cell) (l4A : Option Addr) (l4C : Nat) (c2 : Bool), iterF (fun again (s : List Bool × List Cell × Bool) => M_ref7_hangs_L1 pins ways Q (fun l3 l4 c2 => again (l3, l4, c2)) s.1 s.2.1 s.2.2) kk (l3, l4, c2) ∧ FrOk 74 [(0, .slice pinsA pins.length pinsC), (1, .slice waysA ways.length waysC), (5, .slice l4A l4.length l4C), (6, .slice l3A l3.length l3C), (7, .bool c2)] a ∧ Sat w0 none_ [hown 4 l3A l3C l3, hown 28 l4A l4C l4] w) kk ⟨(List.replicate ways.length false), A2, ways.length, [x1], A1, 1, true, h, (((((hf.nil.cons (hf.get 7 _ rfl)).cons (hf.get 6 _ rfl)).cons (hf.get 5 _ rfl)).cons (hf.get 1 _ rfl)).cons (hf.get 0 _ rfl)), hs⟩ (fun a w ⟨_, _, _, _, _, _, _, h, _, _⟩ => h) ?_
  clear h hf hs
  rintro kk a w ⟨l3, l3A, l3C, l4, l4A, l4C, c2, h, hf, hs⟩
  obtain ⟨again1, hagain1⟩ : ∃ X : List Bool → List Cell → Bool → Prop, X = (fun l3 l4 c2 => iterF (fun again (s : List Bool × List Cell × Bool) => M_ref7_hangs_L1 pins ways Q (fun l3 l4 c2 => again (l3, l4, c2)) s.1 s.2.1 s.2.2) kk (l3, l4, c2)) := ⟨_, rfl⟩
  replace h : M_ref7_hangs_L1 pins ways Q again1 l3 l4 c2 := by rw [hagain1]; exact h
  unfold M_ref7_hangs_L1 at h
  refine wp_seq ?_
  refine wp_seq ?_
  refine R.list ?_
  refine S.p hf hs (.bool c2) rfl rfl fun a hf => ?_
  refine R.nil ?_
  refine X.then_ ?_
  refine C.cond hf (b := c2) rfl (fun hc => ?_) (fun hc => ?_)
  · replace h := h.1 hc
    refine wp_skip ?_
    refine X.then_ ?_
    refine wp_block ?_
    refine wp_seq ?_
    refine R.list ?_
    refine S.p hf hs (.bool false) rfl rfl fun a hf => ?_
    refine R.nil ?_
    refine X.then_ ?_
    refine wp_seq ?_
    refine R.list ?_
    refine S.p hf hs (.slice waysA ways.length waysC) rfl rfl fun a hf => ?_
    refine S.v hf hs (iv (ways.length : Int)) rfl (V.len rfl rfl Try.runUnderlying47) fun a hf => ?_
    refine S.p hf hs (iv 0) rfl rfl fun a hf => ?_
    refine R.nil ?_
    refine X.then_ ?_
    refine wp_block ?_
    have hlenk2 := hv_ways.len64
    refine C.range (fun (ll : List (List Cell)) a w => ∃ (k2 : Nat) (l7 : List Bool) (l7A : Option Addr) (l7C : Nat) (l8 : List Cell) (l8A : Option Addr) (l8C : Nat) (c4 : Bool), ways.drop k2 = ll ∧ k2 + ll.length = ways.length ∧ forIn' (fun k x (s : List Bool × List Cell × Bool) next => M_ref7_hangs_L2 k x s.1 s.2.1 s.2.2 (fun l7 l8 c4 => next (l7, l8, c4))) (fun (s : List Bool × List Cell × Bool) => (fun (l7 : List Bool) (l8 : List Cell) (c4 : Bool) => again1 l7 l8 c4) s.1 s.2.1 s.2.2) ll k2 (l7, l8, c4) ∧ FrOk 74 [(24, iv (k2 : Int)), (0, .slice pinsA pins.length pinsC), (1, .slice waysA ways.length waysC), (5, .slice l8A l8.length l8C), (6, .slice l7A l7.length l7C), (7, .bool c4), (22, .slice waysA ways.length waysC), (23, iv (ways.length : Int))] a ∧ Sat w0 none_ [hown 4 l7A l7C l7, hown 28 l8A l8C l8] w) ways ⟨0, l3, l3A, l3C, l4, l4A, l4C, false, rfl, Nat.zero_add _, h, ((((((((hf.nil.cons (hf.get 23 _ rfl)).cons (hf.get 22 _ rfl)).cons (hf.get 7 _ rfl)).cons (hf.get 6 _ rfl)).cons (hf.get 5 _ rfl)).cons (hf.get 1 _ rfl)).cons (hf.get 0 _ rfl)).cons (hf.get 24 _ rfl)), hs⟩ ?_
    clear h hf hs
    rintro llk2 a w ⟨k2, l7, l7A, l7C, l8, l8A, l8C, c4, hlk2, hkk2, h, hf, hs⟩
    cases llk2 with
    | nil =>
      have hc := range_done hkk2
      replace h : (fun (l7 : List Bool) (l8 : List Cell) (c4 : Bool) => again1 l7 l8 c4) l7 l8 c4 := h
      refine wp_seq ?_
      refine R.list ?_
      refine S.v hf hs (.bool false) rfl (V.cmp false rfl rfl rfl rfl hc) fun a hf => ?_
      refine R.nil ?_
      refine X.then_ ?_
      refine wp_seq ?_
      refine C.no hf rfl ?_
      refine wp_exit ?_
      refine X.then_exit ?_
      refine X.then_exit ?_
      refine X.blk_exit ?_
      refine X.blk ?_
      refine X.then_ ?_
      exact ⟨l7, l7A, l7C, l8, l8A, l8C, c4, (by rw [hagain1] at h; exact h), (((((hf.nil.cons (hf.get 7 _ rfl)).cons (hf.get 6 _ rfl)).cons (hf.get 5 _ rfl)).cons (hf.get 1 _ rfl)).cons (hf.get 0 _ rfl)), hs⟩
    | cons xk2 llk2 =>
      have hltk2 := range_lt hkk2; have hc := range_go hkk2; have hxk2 := range_get hlk2
      obtain ⟨next2, hnext2⟩ : ∃ X : List Bool → List Cell → Bool → Prop, X = (fun l7 l8 c4 => forIn' (fun k x (s : List Bool × List Cell × Bool) next => M_ref7_hangs_L2 k x s.1 s.2.1 s.2.2 (fun l7 l8 c4 => next (l7, l8, c4))) (fun (s : List Bool × List Cell × Bool) => (fun (l7 : List Bool) (l8 : List Cell) (c4 : Bool) => again1 l7 l8 c4) s.1 s.2.1 s.2.2) llk2 (k2 + 1) (l7, l8, c4)) := ⟨_, rfl⟩
      replace h : M_ref7_hangs_L2 k2 xk2 l7 l8 c4 next2 := by rw [hnext2]; exact h
      unfold M_ref7_hangs_L2 at h
      refine wp_seq ?_
      refine R.list ?_
      refine S.v hf hs (.bool true) rfl (V.cmp true rfl rfl rfl rfl hc) fun a hf => ?_
      refine R.nil ?_
      refine X.then_ ?_
      refine wp_seq ?_
      refine C.yes hf rfl ?_
      refine wp_skip ?_
      refine X.then_ ?_
      refine wp_seq ?_
      refine wp_block ?_
      refine wp_seq ?_
      refine R.list ?_
      refine S.p hf hs (iv (k2 : Int)) rfl rfl fun a hf => ?_
      obtain ⟨cs1, he1, hr1⟩ := hv_ways.at_ _ _ hxk2
      obtain ⟨u1A, u1C, rfl, hvu1⟩ := hr1
      refine S.v hf hs (elemPtr waysA (k2 * 1)) rfl (V.index rfl rfl rfl Try.runUnderlying47 Try.sizeOf22 (hv_ways.some_ (lt_of_get hxk2)) (Int.natCast_nonneg _) (lt_of_get hxk2) rfl) fun a hf => ?_
      refine S.v hf hs (.slice u1A xk2.length u1C) rfl (V.loadEl (off := 0) (Ag.args _ _ _) he1 rfl rfl rfl Try.isAgg22 Try.sizeOf22 rfl rfl) fun a hf => ?_
      refine S.p hf hs (iv (k2 : Int)) rfl rfl fun a hf => ?_
      refine S.p hf hs (.slice u1A xk2.length u1C) rfl rfl fun a hf => ?_
      refine R.nil ?_
      refine X.then_ ?_
      refine wp_seq ?_
      refine wp_seq ?_
      refine R.list ?_
      refine S.p hf hs (.slice l7A l7.length l7C) rfl rfl fun a hf => ?_
      refine S.p hf hs (iv (k2 : Int)) rfl rfl fun a hf => ?_
      obtain ⟨h0x2, x2, hx2, h⟩ := h
      refine S.v hf hs (elemPtr l7A (k2 * 1)) rfl (V.index rfl rfl rfl Try.runUnderlying66 Try.sizeOf4 (hs.ownSome 0 rfl (lt_of_get hx2)) (Int.natCast_nonneg _) (lt_of_get hx2) rfl) fun a hf => ?_
      refine S.v hf hs (.bool x2) rfl (V.loadOwn (off := 0) 0 rfl hx2 rfl rfl rfl Try.isAgg4 Try.sizeOf4 rfl rfl) fun a hf => ?_
      refine R.nil ?_
      refine X.then_ ?_
      refine C.cond hf (b := x2) rfl (fun hc => ?_) (fun hc => ?_)
      · replace h := h.1 hc
        refine wp_exit ?_
        refine X.then_exit ?_
        refine X.blk_exit ?_
        refine X.then_ ?_
        refine R.list ?_
        refine S.v hf hs (iv ((k2 + 1 : Nat) : Int)) rfl (V.incr rfl rfl rfl hltk2 hlenk2) fun a hf => ?_
        refine S.p hf hs (iv ((k2 + 1 : Nat) : Int)) rfl rfl fun a hf => ?_
        refine R.nil ?_
        refine X.then_ ?_
        exact ⟨xk2, llk2, rfl, k2 + 1, l7, l7A, l7C, l8, l8A, l8C, c4, range_drop hlk2, range_len hkk2, (by rw [hnext2] at h; exact h), ((((((((hf.nil.cons (hf.get 23 _ rfl)).cons (hf.get 22 _ rfl)).cons (hf.get 7 _ rfl)).cons (hf.get 6 _ rfl)).cons (hf.get 5 _ rfl)).cons (hf.get 1 _ rfl)).cons (hf.get 0 _ rfl)).cons (hf.get 24 _ rfl)), hs⟩
      · replace h := h.2 hc
        refine wp_skip ?_
        refine X.then_ ?_
        refine wp_seq ?_
        refine wp_seq ?_
        refine R.list ?_
        refine S.p hf hs (.slice u1A xk2.length u1C) rfl rfl fun a hf => ?_
        refine S.v hf hs (iv (xk2.length : Int)) rfl (V.len rfl rfl Try.runUnderlying22) fun a hf => ?_
        refine S.p hf hs (iv 0) rfl rfl fun a hf => ?_
        refine R.nil ?_
        refine X.then_ ?_
        refine wp_block ?_
        have hlenk3 := hvu1.len64
        refine C.range (fun (ll : List Cell) a w => ∃ (k3 : Nat) (l10 : List Bool) (l10A : Option Addr) (l10C : Nat), xk2.drop k3 = ll ∧ k3 + ll.length = xk2.length ∧ forIn' (fun k x (s : List Bool) next => M_ref7_hangs_L3 k2 l8 k x s (fun l10 => next l10)) (fun (s : List Bool) => (fun (l10 : List Bool) => idx l10 (k2 : Int) fun x3 => cnd x3 (must (room (l8 ++ xk2).length 24) (next2 l10 (l8 ++ xk2) true)) (next2 l10 l8 c4)) s) ll k3 l10 ∧ FrOk 74 [(35, iv (k3 : Int)), (0, .slice pinsA pins.length pinsC), (1, .slice waysA ways.length waysC), (5, .slice l8A l8.length l8C), (6, .slice l10A l10.length l10C), (7, .bool c4), (8, iv (k2 : Int)), (9, .slice u1A xk2.length u1C), (22, .slice waysA ways.length waysC), (23, iv (ways.length : Int)), (24, iv (k2 : Int)), (33, .slice u1A xk2.length u1C), (34, iv (xk2.length : Int))] a ∧ Sat w0 none_ [hown 4 l10A l10C l10, hown 28 l8A l8C l8] w) xk2 ⟨0, l7, l7A, l7C, rfl, Nat.zero_add _, h, (((((((((((((hf.nil.cons (hf.get 34 _ rfl)).cons (hf.get 33 _ rfl)).cons (hf.get 24 _ rfl)).cons (hf.get 23 _ rfl)).cons (hf.get 22 _ rfl)).cons (hf.get 9 _ rfl)).cons (hf.get 8 _ rfl)).cons (hf.get 7 _ rfl)).cons (hf.get 6 _ rfl)).cons (hf.get 5 _ rfl)).cons (hf.get 1 _ rfl)).cons (hf.get 0 _ rfl)).cons (hf.get 35 _ rfl)), hs⟩ ?_
        clear h hf hs
        rintro llk3 a w ⟨k3, l10, l10A, l10C, hlk3, hkk3, h, hf, hs⟩
        cases llk3 with
        | nil =>
          have hc := range_done hkk3
          replace h : (fun (l10 : List Bool) => idx l10 (k2 : Int) fun x3 => cnd x3 (must (room (l8 ++ xk2).length 24) (next2 l10 (l8 ++ xk2) true)) (next2 l10 l8 c4)) l10 := h
          refine wp_seq ?_
          refine R.list ?_
          refine S.v hf hs (.bool false) rfl (V.cmp false rfl rfl rfl rfl hc) fun a hf => ?_
          refine R.nil ?_
          refine X.then_ ?_
          refine wp_seq ?_
          refine C.no hf rfl ?_
          refine wp_exit ?_
          refine X.then_exit ?_
          refine X.then_exit ?_
          refine X.blk_exit ?_
          refine X.then_ ?_
          refine wp_seq ?_
          refine R.list ?_
          refine S.p hf hs (.slice l10A l10.length l10C) rfl rfl fun a hf => ?_
          refine S.p hf hs (iv (k2 : Int)) rfl rfl fun a hf => ?_
          obtain ⟨h0x3, x3, hx3, h⟩ := h
          refine S.v hf hs (elemPtr l10A (k2 * 1)) rfl (V.index rfl rfl rfl Try.runUnderlying66 Try.sizeOf4 (hs.ownSome 0 rfl (lt_of_get hx3)) (Int.natCast_nonneg _) (lt_of_get hx3) rfl) fun a hf => ?_
          refine S.v hf hs (.bool x3) rfl (V.loadOwn (off := 0) 0 rfl hx3 rfl rfl rfl Try.isAgg4 Try.sizeOf4 rfl rfl) fun a hf => ?_
          refine R.nil ?_
          refine X.then_ ?_
          refine C.cond hf (b := x3) rfl (fun hc => ?_) (fun hc => ?_)
          · replace h := h.1 hc
            refine R.list ?_
            refine S.p hf hs (.slice l8A l8.length l8C) rfl rfl fun a hf => ?_
            refine S.p hf hs (.slice u1A xk2.length u1C) rfl rfl fun a hf => ?_
            obtain ⟨hroom, h⟩ := h
            refine S.appendAny 1 hf hs rfl rfl rfl rfl rfl rfl rfl Try.underlying22 info28 rfl hroom ((Ag.args _ _ _).view hvu1 hs) (fun A3 C1 a w hf hs => ?_)
            refine S.p hf hs (.slice A3 (l8 ++ xk2).length C1) rfl rfl fun a hf => ?_
            refine S.p hf hs (.bool true) rfl rfl fun a hf => ?_
            refine R.nil ?_
            refine X.blk ?_
            refine X.then_ ?_
            refine R.list ?_
            refine S.v hf hs (iv ((k2 + 1 : Nat) : Int)) rfl (V.incr rfl rfl rfl hltk2 hlenk2) fun a hf => ?_
            refine S.p hf hs (iv ((k2 + 1 : Nat) : Int)) rfl rfl fun a hf => ?_
            refine R.nil ?_
            refine X.then_ ?_
            exact ⟨xk2, llk2, rfl, k2 + 1, l10, l10A, l10C, (l8 ++ xk2), A3, C1, true, range_drop hlk2, range_len hkk2, (by rw [hnext2] at h; exact h), ((((((((hf.nil.cons (hf.get 23 _ rfl)).cons (hf.get 22 _ rfl)).cons (hf.get 7 _ rfl)).cons (hf.get 6 _ rfl)).cons (hf.get 5 _ rfl)).cons (hf.get 1 _ rfl)).cons (hf.get 0 _ rfl)).cons (hf.get 24 _ rfl)), hs⟩
          · replace h := h.2 hc
            refine wp_skip ?_
            refine X.blk ?_
            refine X.then_ ?_
            refine R.list ?_
            refine S.v hf hs (iv ((k2 + 1 : Nat) : Int)) rfl (V.incr rfl rfl rfl hltk2 hlenk2) fun a hf => ?_
            refine S.p hf hs (iv ((k2 + 1 : Nat) : Int)) rfl rfl fun a hf => ?_
            refine R.nil ?_
            refine X.then_ ?_
            exact ⟨xk2, llk2, rfl, k2 + 1, l10, l10A, l10C, l8, l8A, l8C, c4, range_drop hlk2, range_len hkk2, (by rw [hnext2] at h; exact h), ((((((((hf.nil.cons (hf.get 23 _ rfl)).cons (hf.get 22 _ rfl)).cons (hf.get 7 _ rfl)).cons (hf.get 6 _ rfl)).cons (hf.get 5 _ rfl)).cons (hf.get 1 _ rfl)).cons (hf.get 0 _ rfl)).cons (hf.get 24 _ rfl)), hs⟩
        | cons xk3 llk3 =>
          have hltk3 := range_lt hkk3; have hc := range_go hkk3; have hxk3 := range_get hlk3
          obtain ⟨next3, hnext3⟩ : ∃ X : List Bool → Prop, X = (fun l10 => forIn' (fun k x (s : List Bool) next => M_ref7_hangs_L3 k2 l8 k x s (fun l10 => next l10)) (fun (s : List Bool) => (fun (l10 : List Bool) => idx l10 (k2 : Int) fun x3 => cnd x3 (must (room (l8 ++ xk2).length 24) (next2 l10 (l8 ++ xk2) true)) (next2 l10 l8 c4)) s) llk3 (k3 + 1) l10) := ⟨_, rfl⟩
          replace h : M_ref7_hangs_L3 k2 l8 k3 xk3 l10 next3 := by rw [hnext3]; exact h
          unfold M_ref7_hangs_L3 at h
          refine wp_seq ?_
          refine R.list ?_
          refine S.v hf hs (.bool true) rfl (V.cmp true rfl rfl rfl rfl hc) fun a hf => ?_
          refine R.nil ?_
          refine X.then_ ?_
          refine wp_seq ?_
          refine C.yes hf rfl ?_
          refine wp_skip ?_
          refine X.then_ ?_
          refine wp_seq ?_
          refine wp_block ?_
          refine wp_seq ?_
          refine R.list ?_
          refine S.v hf hs (elemPtr u1A (k3 * 3)) rfl (V.index rfl rfl rfl Try.runUnderlying22 Try.sizeOf28 (hvu1.some_ (lt_of_get hxk3)) (Int.natCast_nonneg _) (lt_of_get hxk3) rfl) fun a hf => ?_
          refine S.v hf hs (.agg #[iv xk3.X, iv xk3.Y, iv xk3.Layer]) rfl (V.loadEl (off := 0) (Ag.args _ _ _) (hvu1.flat hxk3) rfl rfl rfl Try.isAgg28 Try.sizeOf28 rfl rfl) fun a hf => ?_
          refine S.alloc hf hs rfl rfl rfl [iv 0, iv 0, iv 0] rfl Try.zeroValue28 rfl (fun g1 a w hf hs => ?_)
          refine S.storeBox 0 hf hs rfl rfl [iv xk3.X, iv xk3.Y, iv xk3.Layer] [iv xk3.X, iv xk3.Y, iv xk3.Layer] rfl rfl rfl rfl rfl Try.sizeOf28 rfl rfl rfl rfl (fun a w hf hs => ?_)
          refine R.nil ?_
          refine X.then_ ?_
          refine R.list ?_
          refine S.p hf hs (.slice l10A l10.length l10C) rfl rfl fun a hf => ?_
          refine S.p hf hs (iv (k2 : Int)) rfl rfl fun a hf => ?_
          refine S.p hf hs (.slice l10A l10.length l10C) rfl rfl fun a hf => ?_
          refine S.p hf hs (iv (k2 : Int)) rfl rfl fun a hf => ?_
          obtain ⟨h0x4, x4, hx4, h⟩ := h
          refine S.v hf hs (elemPtr l10A (k2 * 1)) rfl (V.index rfl rfl rfl Try.runUnderlying66 Try.sizeOf4 (hs.ownSome 1 rfl (lt_of_get hx4)) (Int.natCast_nonneg _) (lt_of_get hx4) rfl) fun a hf => ?_
          refine S.v hf hs (.bool x4) rfl (V.loadOwn (off := 0) 1 rfl hx4 rfl rfl rfl Try.isAgg4 Try.sizeOf4 rfl rfl) fun a hf => ?_
          refine S.split hf hs (b := x4) rfl rfl rfl (V.pure rfl) (fun hc a hf => ?_) (fun hc a hf => ?_)
          · replace h := h.1 hc
            refine S.k hf rfl fun a hf => ?_
            refine S.k hf rfl fun a hf => ?_
            refine S.k hf rfl fun a hf => ?_
            refine S.p hf hs (.bool true) rfl rfl fun a hf => ?_
            refine S.v hf hs (elemPtr l10A (k2 * 1)) rfl (V.index rfl rfl rfl Try.runUnderlying66 Try.sizeOf4 (hs.ownSome 1 rfl (lt_of_get hx4)) (Int.natCast_nonneg _) (lt_of_get hx4) rfl) fun a hf => ?_
            refine S.storeOwn (off := 0) 1 hf hs rfl rfl true [.bool true] rfl hx4 rfl rfl rfl rfl rfl Try.sizeOf4 rfl (by decide) rfl rfl (fun a w hf hs => ?_)
            replace hf := hf.tell 6 (v := .slice l10A (l10.set k2 true).length l10C) ((hf.get 6 (.slice l10A l10.length l10C) rfl).trans (congrArg (fun n => Value.slice l10A n l10C) List.length_set.symm))
            replace hf := hf.tell 39 (v := .slice l10A (l10.set k2 true).length l10C) ((hf.get 39 (.slice l10A l10.length l10C) rfl).trans (congrArg (fun n => Value.slice l10A n l10C) List.length_set.symm))
            replace hf := hf.tell 41 (v := .slice l10A (l10.set k2 true).length l10C) ((hf.get 41 (.slice l10A l10.length l10C) rfl).trans (congrArg (fun n => Value.slice l10A n l10C) List.length_set.symm))
            refine R.nil ?_
            refine X.blk ?_
            refine X.then_ ?_
            refine R.list ?_
            refine S.v hf hs (iv ((k3 + 1 : Nat) : Int)) rfl (V.incr rfl rfl rfl hltk3 hlenk3) fun a hf => ?_
            refine S.p hf hs (iv ((k3 + 1 : Nat) : Int)) rfl rfl fun a hf => ?_
            refine R.nil ?_
            refine X.then_ ?_
            exact ⟨xk3, llk3, rfl, k3 + 1, (l10.set k2 true), l10A, l10C, range_drop hlk3, range_len hkk3, (by rw [hnext3] at h; exact h), (((((((((((((hf.nil.cons (hf.get 34 _ rfl)).cons (hf.get 33 _ rfl)).cons (hf.get 24 _ rfl)).cons (hf.get 23 _ rfl)).cons (hf.get 22 _ rfl)).cons (hf.get 9 _ rfl)).cons (hf.get 8 _ rfl)).cons (hf.get 7 _ rfl)).cons (hf.get 6 _ rfl)).cons (hf.get 5 _ rfl)).cons (hf.get 1 _ rfl)).cons (hf.get 0 _ rfl)).cons (hf.get 35 _ rfl)), hs.drop⟩
          · replace h := h.2 hc
            refine S.p hf hs (.slice l8A l8.length l8C) rfl rfl fun a hf => ?_
            refine S.v hf hs (.agg #[iv xk3.X, iv xk3.Y, iv xk3.Layer]) rfl (V.loadBox 0 rfl rfl rfl Try.isAgg28 Try.sizeOf28 rfl rfl) fun a hf => ?_
            refine S.call hf rfl rfl rfl (call_fn (vs := [.slice l8A l8.length l8C, .agg #[iv xk3.X, iv xk3.Y, iv xk3.Layer]]) rfl rfl rfl Try.call71) (R_contains_cell l8 xk3 _ l8A l8C (hs.ownView 2 rfl) _ h) (fun v a w' hf hr => ?_)
            obtain ⟨y1, rfl, h2, hs2⟩ := hr
            replace h := h2; replace hs := hs.call hs2; clear h2 hs2
            refine S.p hf hs (.bool y1) rfl rfl fun a hf => ?_
            refine S.v hf hs (elemPtr l10A (k2 * 1)) rfl (V.index rfl rfl rfl Try.runUnderlying66 Try.sizeOf4 (hs.ownSome 1 rfl (lt_of_get hx4)) (Int.natCast_nonneg _) (lt_of_get hx4) rfl) fun a hf => ?_
            refine S.storeOwn (off := 0) 1 hf hs rfl rfl y1 [.bool y1] rfl hx4 rfl rfl rfl rfl rfl Try.sizeOf4 rfl (by decide) rfl rfl (fun a w hf hs => ?_)
            replace hf := hf.tell 6 (v := .slice l10A (l10.set k2 y1).length l10C) ((hf.get 6 (.slice l10A l10.length l10C) rfl).trans (congrArg (fun n => Value.slice l10A n l10C) List.length_set.symm))
            replace hf := hf.tell 39 (v := .slice l10A (l10.set k2 y1).length l10C) ((hf.get 39 (.slice l10A l10.length l10C) rfl).trans (congrArg (fun n => Value.slice l10A n l10C) List.length_set.symm))
            replace hf := hf.tell 41 (v := .slice l10A (l10.set k2 y1).length l10C) ((hf.get 41 (.slice l10A l10.length l10C) rfl).trans (congrArg (fun n => Value.slice l10A n l10C) List.length_set.symm))
            refine R.nil ?_
            refine X.blk ?_
            refine X.then_ ?_
            refine R.list ?_
            refine S.v hf hs (iv ((k3 + 1 : Nat) : Int)) rfl (V.incr rfl rfl rfl hltk3 hlenk3) fun a hf => ?_
            refine S.p hf hs (iv ((k3 + 1 : Nat) : Int)) rfl rfl fun a hf => ?_
            refine R.nil ?_
            refine X.then_ ?_
            exact ⟨xk3, llk3, rfl, k3 + 1, (l10.set k2 y1), l10A, l10C, range_drop hlk3, range_len hkk3, (by rw [hnext3] at h; exact h), (((((((((((((hf.nil.cons (hf.get 34 _ rfl)).cons (hf.get 33 _ rfl)).cons (hf.get 24 _ rfl)).cons (hf.get 23 _ rfl)).cons (hf.get 22 _ rfl)).cons (hf.get 9 _ rfl)).cons (hf.get 8 _ rfl)).cons (hf.get 7 _ rfl)).cons (hf.get 6 _ rfl)).cons (hf.get 5 _ rfl)).cons (hf.get 1 _ rfl)).cons (hf.get 0 _ rfl)).cons (hf.get 35 _ rfl)), hs.drop⟩
  · replace h := h.2 hc
    refine wp_exit ?_
    refine X.then_exit ?_
    refine X.then_exit ?_
    refine X.blk_exit ?_
    refine X.then_ ?_
    refine wp_seq ?_
    refine wp_seq ?_
    refine R.list ?_
    refine S.p hf hs (.slice pinsA pins.length pinsC) rfl rfl fun a hf => ?_
    refine S.v hf hs (iv (pins.length : Int)) rfl (V.len rfl rfl Try.runUnderlying22) fun a hf => ?_
    refine S.p hf hs (iv 0) rfl rfl fun a hf => ?_
    refine R.nil ?_
    refine X.then_ ?_
    refine wp_block ?_
    have hlenk4 := hv_pins.len64
    refine C.range (fun (ll : List Cell) a w => ∃ (k4 : Nat) , pins.drop k4 = ll ∧ k4 + ll.length = pins.length ∧ forIn' (fun k x (s : Unit) next => M_ref7_hangs_L4 Q l4 k x (next ())) (fun (s : Unit) => M_contains_bool l3 false fun y2 => Q (!y2)) ll k4 () ∧ FrOk 74 [(62, iv (k4 : Int)), (5, .slice l4A l4.length l4C), (6, .slice l3A l3.length l3C), (60, .slice pinsA pins.length pinsC), (61, iv (pins.length : Int))] a ∧ Sat w0 none_ [hown 4 l3A l3C l3, hown 28 l4A l4C l4] w) pins ⟨0, rfl, Nat.zero_add _, h, (((((hf.nil.cons (hf.get 61 _ rfl)).cons (hf.get 60 _ rfl)).cons (hf.get 6 _ rfl)).cons (hf.get 5 _ rfl)).cons (hf.get 62 _ rfl)), hs⟩ ?_
    clear h hf hs
    rintro llk4 a w ⟨k4, hlk4, hkk4, h, hf, hs⟩
    cases llk4 with
    | nil =>
      have hc := range_done hkk4
      replace h : M_contains_bool l3 false fun y2 => Q (!y2) := h
      refine wp_seq ?_
      refine R.list ?_
      refine S.v hf hs (.bool false) rfl (V.cmp false rfl rfl rfl rfl hc) fun a hf => ?_
      refine R.nil ?_
      refine X.then_ ?_
      refine wp_seq ?_
      refine C.no hf rfl ?_
      refine wp_exit ?_
      refine X.then_exit ?_
      refine X.then_exit ?_
      refine X.blk_exit ?_
      refine X.then_ ?_
      refine wp_seq ?_
      refine R.list ?_
      refine S.p hf hs (.slice l3A l3.length l3C) rfl rfl fun a hf => ?_
      refine S.call hf rfl rfl rfl (call_fn (vs := [.slice l3A l3.length l3C, .bool false]) rfl rfl rfl Try.call87) (R_contains_bool l3 false _ l3A l3C (hs.ownView 0 rfl) _ h) (fun v a w' hf hr => ?_)
      obtain ⟨y2, rfl, h2, hs2⟩ := hr
      replace h := h2; replace hs := hs.call hs2; clear h2 hs2
      refine S.p hf hs (.bool (!y2)) rfl rfl fun a hf => ?_
      refine S.p hf hs (.bool (!y2)) rfl rfl fun a hf => ?_
      refine R.nil ?_
      refine X.then_ ?_
      refine wp_ret ?_
      exact L.ret hf (run_results1 Try.results66 (ResIs.tmp hf rfl)) ⟨(!y2), rfl, h, hs.nil⟩
    | cons xk4 llk4 =>
      have hltk4 := range_lt hkk4; have hc := range_go hkk4; have hxk4 := range_get hlk4
      obtain ⟨next4, hnext4⟩ : ∃ X : Prop, X = (forIn' (fun k x (s : Unit) next => M_ref7_hangs_L4 Q l4 k x (next ())) (fun (s : Unit) => M_contains_bool l3 false fun y2 => Q (!y2)) llk4 (k4 + 1) ()) := ⟨_, rfl⟩
      replace h : M_ref7_hangs_L4 Q l4 k4 xk4  next4 := by rw [hnext4]; exact h
      unfold M_ref7_hangs_L4 at h
      refine wp_seq ?_
      refine R.list ?_
      refine S.v hf hs (.bool true) rfl (V.cmp true rfl rfl rfl rfl hc) fun a hf => ?_
      refine R.nil ?_
      refine X.then_ ?_
      refine wp_seq ?_
      refine C.yes hf rfl ?_
      refine wp_skip ?_
      refine X.then_ ?_
      refine wp_seq ?_
      refine wp_block ?_
      refine wp_seq ?_
      refine R.list ?_
      refine S.v hf hs (elemPtr pinsA (k4 * 3)) rfl (V.index rfl rfl rfl Try.runUnderlying22 Try.sizeOf28 (hv_pins.some_ (lt_of_get hxk4)) (Int.natCast_nonneg _) (lt_of_get hxk4) rfl) fun a hf => ?_
      refine S.v hf hs (.agg #[iv xk4.X, iv xk4.Y, iv xk4.Layer]) rfl (V.loadEl (off := 0) (Ag.args _ _ _) (hv_pins.flat hxk4) rfl rfl rfl Try.isAgg28 Try.sizeOf28 rfl rfl) fun a hf => ?_
      refine S.alloc hf hs rfl rfl rfl [iv 0, iv 0, iv 0] rfl Try.zeroValue28 rfl (fun g2 a w hf hs => ?_)
      refine S.storeBox 0 hf hs rfl rfl [iv xk4.X, iv xk4.Y, iv xk4.Layer] [iv xk4.X, iv xk4.Y, iv xk4.Layer] rfl rfl rfl rfl rfl Try.sizeOf28 rfl rfl rfl rfl (fun a w hf hs => ?_)
      refine R.nil ?_
      refine X.then_ ?_
      refine wp_seq ?_
      refine R.list ?_
      refine S.p hf hs (.slice l4A l4.length l4C) rfl rfl fun a hf => ?_
      refine S.v hf hs (.agg #[iv xk4.X, iv xk4.Y, iv xk4.Layer]) rfl (V.loadBox 0 rfl rfl rfl Try.isAgg28 Try.sizeOf28 rfl rfl) fun a hf => ?_
      refine S.call hf rfl rfl rfl (call_fn (vs := [.slice l4A l4.length l4C, .agg #[iv xk4.X, iv xk4.Y, iv xk4.Layer]]) rfl rfl rfl Try.call71) (R_contains_cell l4 xk4 _ l4A l4C (hs.ownView 2 rfl) _ h) (fun v a w' hf hr => ?_)
      obtain ⟨y3, rfl, h2, hs2⟩ := hr
      replace h := h2; replace hs := hs.call hs2; clear h2 hs2
      refine S.p hf hs (.bool (!y3)) rfl rfl fun a hf => ?_
      refine R.nil ?_
      refine X.then_ ?_
      refine C.cond hf (b := !y3) rfl (fun hc => ?_) (fun hc => ?_)
      · replace h := h.1 hc
        refine wp_seq ?_
        refine R.list ?_
        refine S.p hf hs (.bool false) rfl rfl fun a hf => ?_
        refine R.nil ?_
        refine X.then_ ?_
        refine wp_ret ?_
        refine X.blk_ret ?_
        refine X.then_ret ?_
        refine X.then_ret ?_
        refine X.blk_ret ?_
        refine X.then_ret ?_
        exact L.ret hf (run_results1 Try.results66 (ResIs.tmp hf rfl)) ⟨false, rfl, h, hs.nil⟩
      · replace h := h.2 hc
        refine wp_skip ?_
        refine X.blk ?_
        refine X.then_ ?_
        refine R.list ?_
        refine S.v hf hs (iv ((k4 + 1 : Nat) : Int)) rfl (V.incr rfl rfl rfl hltk4 hlenk4) fun a hf => ?_
        refine S.p hf hs (iv ((k4 + 1 : Nat) : Int)) rfl rfl fun a hf => ?_
        refine R.nil ?_
        refine X.then_ ?_
        exact ⟨xk4, llk4, rfl, k4 + 1, range_drop hlk4, range_len hkk4, (by rw [hnext4] at h; exact h), (((((hf.nil.cons (hf.get 61 _ rfl)).cons (hf.get 60 _ rfl)).cons (hf.get 6 _ rfl)).cons (hf.get 5 _ rfl)).cons (hf.get 62 _ rfl)), hs.drop⟩

set_option linter.unusedVariables false
def M_ref7_Hangs (pins : (List Cell)) (ways : (List (List Cell))) (Q : Bool → Prop) : Prop :=
  cnd (decide ((pins.length : Int) > 0)) (M_ref7_hangs pins ways fun y1 => Q y1) (Q false)
set_option maxHeartbeats 1000000 in
theorem R_ref7_Hangs (pins : (List Cell)) (ways : (List (List Cell))) (w0 : World) (pinsA : Option Addr) (pinsC : Nat) (hv_pins : View w0 (old w0 none_) pinsA pinsC pins) (waysA : Option Addr) (waysC : Nat) (hv_ways : View w0 (old w0 none_) waysA waysC ways) (Q : Bool → Prop) (h : M_ref7_Hangs pins ways Q) :
    Ret Try.prog 33 #[.slice pinsA pins.length pinsC, .slice waysA ways.length waysC] w0 fun v w' => ∃ (r0 : Bool), v = .bool r0 ∧ Q r0 ∧ Sat w0 none_ [] w' := by
  refine fn_enter Try.func33 rfl Try.ntmps33 rfl (fs := [(0, .slice pinsA pins.length pinsC), (1, .slice waysA ways.length waysC)]) rfl (fun a hf => ?_)
  have hs := Sat.start w0 none_
  unfold M_ref7_Hangs at h
  refine wp_seq ?_
  refine R.list ?_
  refine S.p hf hs (.bool false) rfl rfl fun a hf => ?_
  refine R.nil ?_
  refine X.then_ ?_
  refine wp_seq ?_
  refine R.list ?_
  refine S.p hf hs (.slice pinsA pins.length pinsC) rfl rfl fun a hf => ?_
  refine S.v hf hs (iv (pins.length : Int)) rfl (V.len rfl rfl Try.runUnderlying22) fun a hf => ?_
  refine S.p hf hs (.bool (decide ((pins.length : Int) > 0))) rfl rfl fun a hf => ?_
  refine S.split hf hs (b := decide ((pins.length : Int) > 0)) rfl rfl rfl (V.pure rfl) (fun hc a hf => ?_) (fun hc a hf => ?_)
  · replace h := h.1 hc
    refine S.p hf hs (.slice pinsA pins.length pinsC) rfl rfl fun a hf => ?_
    refine S.p hf hs (.slice waysA ways.length waysC) rfl rfl fun a hf => ?_
    refine S.call hf rfl rfl rfl (call_fn (vs := [.slice pinsA pins.length pinsC, .slice waysA ways.length waysC]) rfl rfl rfl Try.call66) (R_ref7_hangs pins ways _ pinsA pinsC ((Ag.args _ _ _).view hv_pins hs) waysA waysC ((Ag.args _ _ _).view hv_ways hs) _ h) (fun v a w' hf hr => ?_)
    obtain ⟨y1, rfl, h2, hs2⟩ := hr
    replace h := h2; replace hs := hs.call hs2; clear h2 hs2
    refine S.p hf hs (.bool y1) rfl rfl fun a hf => ?_
    refine S.p hf hs (.bool y1) rfl rfl fun a hf => ?_
    refine R.nil ?_
    refine X.then_ ?_
    refine wp_ret ?_
    exact L.ret hf (run_results1 Try.results33 (ResIs.tmp hf rfl)) ⟨y1, rfl, h, hs.nil⟩
  · replace h := h.2 hc
    refine S.k hf rfl fun a hf => ?_
    refine S.k hf rfl fun a hf => ?_
    refine S.k hf rfl fun a hf => ?_
    refine S.p hf hs (.bool false) rfl rfl fun a hf => ?_
    refine S.p hf hs (.bool false) rfl rfl fun a hf => ?_
    refine R.nil ?_
    refine X.then_ ?_
    refine wp_ret ?_
    exact L.ret hf (run_results1 Try.results33 (ResIs.tmp hf rfl)) ⟨false, rfl, h, hs.nil⟩

set_option linter.unusedVariables false
def M_law_TreesJoin_k3 (g : Grid) (c : Costs) (pins : (List Cell)) (Q : Bool → Prop) (y1 : (List (List Cell))) (n2 : Int) (c2 : Bool) : Prop :=
  cnd c2 (Q false) (cnd ((pins.length : Int) == 2) (idx pins 0 fun x1 => idx pins 1 fun x2 => M_route_Least g c x1 x2 fun y5 y6 y7 => cnd (y7 == 0) (cnd y6 (cnd (y5 == n2) (Q ((y1.length : Int) == 1)) (Q false)) (Q false)) (Q false)) (Q true))
def M_law_TreesJoin_L1 (g : Grid) (c : Costs) (Q : Bool → Prop) (k2 : Nat) (xk2 : (List Cell)) (n2 : Int) (next1 : Int → Prop) : Prop :=
  M_route_CostOf g c xk2 fun y10 y11 => cnd (y11 != 0) (Q false) (next1 (w64 (n2 + y10)))
def M_law_TreesJoin_k1 (g : Grid) (c : Costs) (pins : (List Cell)) (Q : Bool → Prop) (y1 : (List (List Cell))) (c1 : Bool) : Prop :=
  cnd c1 (cnd ((y1.length : Int) == 0) (M_route_awake  fun y4 => Q y4) (Q false)) (forIn' (fun k x (s : Int) next => M_law_TreesJoin_L1 g c Q k x s (fun n2 => next n2)) (fun (s : Int) => (fun (n2 : Int) => M_ref7_Hangs pins y1 fun y8 => cnd (!y8) (M_law_TreesJoin_k3 g c pins Q y1 n2 true) (M_route_awake  fun y9 => M_law_TreesJoin_k3 g c pins Q y1 n2 (!y9))) s) y1 0 0)
def M_law_TreesJoin (g : Grid) (c : Costs) (pins : (List Cell)) (Q : Bool → Prop) : Prop :=
  M_route_Tree g c pins fun y1 y2 y3 => cnd (y3 != 0) (M_law_TreesJoin_k1 g c pins Q y1 true) (M_law_TreesJoin_k1 g c pins Q y1 (!y2))
set_option maxHeartbeats 1000000 in
theorem R_law_TreesJoin (g : Grid) (c : Costs) (pins : (List Cell)) (w0 : World) (g_BlockedA : Option Addr) (g_BlockedC : Nat) (hv_g_Blocked : View w0 (old w0 none_) g_BlockedA g_BlockedC g.Blocked) (pinsA : Option Addr) (pinsC : Nat) (hv_pins : View w0 (old w0 none_) pinsA pinsC pins) (Q : Bool → Prop) (h : M_law_TreesJoin g c pins Q) :
    Ret Try.prog 10 #[.agg #[iv g.W, iv g.H, iv g.Layers, .slice g_BlockedA g.Blocked.length g_BlockedC], .agg #[iv c.Step, iv c.Via, iv c.Turn, iv c.Against], .slice pinsA pins.length pinsC] w0 fun v w' => ∃ (r0 : Bool), v = .bool r0 ∧ Q r0 ∧ Sat w0 none_ [] w' := by
  refine fn_enter Try.func10 rfl Try.ntmps10 rfl (fs := [(0, .agg #[iv g.W, iv g.H, iv g.Layers, .slice g_BlockedA g.Blocked.length g_BlockedC]), (1, .agg #[iv c.Step, iv c.Via, iv c.Turn, iv c.Against]), (2, .slice pinsA pins.length pinsC)]) rfl (fun a hf => ?_)
  have hs := Sat.start w0 none_
  unfold M_law_TreesJoin at h
  refine wp_seq ?_
  refine R.list ?_
  refine S.box hf hs rfl rfl rfl [iv g.W, iv g.H, iv g.Layers, .slice g_BlockedA g.Blocked.length g_BlockedC] rfl rfl rfl (fun g1 a w hf hs => ?_)
  refine S.box hf hs rfl rfl rfl [iv c.Step, iv c.Via, iv c.Turn, iv c.Against] rfl rfl rfl (fun g2 a w hf hs => ?_)
  refine S.p hf hs (.bool false) rfl rfl fun a hf => ?_
  refine R.nil ?_
  refine X.then_ ?_
  refine wp_seq ?_
  refine R.list ?_
  refine S.v hf hs (.agg #[iv g.W, iv g.H, iv g.Layers, .slice g_BlockedA g.Blocked.length g_BlockedC]) rfl (V.loadBox 1 rfl rfl rfl Try.isAgg24 Try.sizeOf24 rfl rfl) fun a hf => ?_
  refine S.v hf hs (.agg #[iv c.Step, iv c.Via, iv c.Turn, iv c.Against]) rfl (V.loadBox 0 rfl rfl rfl Try.isAgg26 Try.sizeOf26 rfl rfl) fun a hf => ?_
  refine S.p hf hs (.slice pinsA pins.length pinsC) rfl rfl fun a hf => ?_
  refine S.call hf rfl rfl rfl (call_fn (vs := [.agg #[iv g.W, iv g.H, iv g.Layers, .slice g_BlockedA g.Blocked.length g_BlockedC], .agg #[iv c.Step, iv c.Via, iv c.Turn, iv c.Against], .slice pinsA pins.length pinsC]) rfl rfl rfl Try.call30) (R_route_Tree g c pins _ g_BlockedA g_BlockedC ((Ag.args _ _ _).view hv_g_Blocked hs) pinsA pinsC ((Ag.args _ _ _).view hv_pins hs) _ h) (fun v a w' hf hr => ?_)
  obtain ⟨y1, y1A, y1C, y1as, y2, y3, rfl, h2, hs2⟩ := hr
  replace h := h2; replace hs := hs.call hs2; clear h2 hs2
  refine S.p hf hs (.tuple #[.slice y1A y1.length y1C, .bool y2, iv y3]) rfl rfl fun a hf => ?_
  refine S.p hf hs (.slice y1A y1.length y1C) rfl rfl fun a hf => ?_
  refine S.p hf hs (.bool y2) rfl rfl fun a hf => ?_
  refine S.p hf hs (iv y3) rfl rfl fun a hf => ?_
  refine S.p hf hs (.slice y1A y1.length y1C) rfl rfl fun a hf => ?_
  refine S.p hf hs (.bool y2) rfl rfl fun a hf => ?_
  refine S.p hf hs (iv y3) rfl rfl fun a hf => ?_
  refine R.nil ?_
  refine X.then_ ?_
  refine wp_seq ?_
  refine wp_seq ?_
  refine C.cut (J := fun a w => ∃ (c1 : Bool), M_law_TreesJoin_k1 g c pins Q y1 c1 ∧ FrOk 96 [(2, .slice pinsA pins.length pinsC), (3, (pn g1 0)), (4, (pn g2 0)), (7, .slice y1A y1.length y1C), (31, .bool c1)] a ∧ Sat w0 none_ [hrows 22 28 y1A y1C y1as y1, hbox g2 26 [iv c.Step, iv c.Via, iv c.Turn, iv c.Against], hbox g1 24 [iv g.W, iv g.H, iv g.Layers, .slice g_BlockedA g.Blocked.length g_BlockedC]] w) ?_ ?_
  · rintro a w ⟨c1, h, hf, hs⟩
    unfold M_law_TreesJoin_k1 at h
    refine C.cond hf (b := c1) rfl (fun hc => ?_) (fun hc => ?_)
    · replace h := h.1 hc
      refine wp_seq ?_
      refine R.list ?_
      refine S.p hf hs (.slice y1A y1.length y1C) rfl rfl fun a hf => ?_
      refine S.v hf hs (iv (y1.length : Int)) rfl (V.len rfl rfl Try.runUnderlying47) fun a hf => ?_
      refine S.p hf hs (.bool ((y1.length : Int) == 0)) rfl rfl fun a hf => ?_
      refine S.split hf hs (b := (y1.length : Int) == 0) rfl rfl rfl (V.pure rfl) (fun hc a hf => ?_) (fun hc a hf => ?_)
      · replace h := h.1 hc
        refine S.call hf rfl rfl rfl (call_fn (vs := []) rfl rfl rfl Try.call13) (R_route_awake  _  _ h) (fun v a w' hf hr => ?_)
        obtain ⟨y4, rfl, h2, hs2⟩ := hr
        replace h := h2; replace hs := hs.call hs2; clear h2 hs2
        refine S.p hf hs (.bool y4) rfl rfl fun a hf => ?_
        refine S.p hf hs (.bool y4) rfl rfl fun a hf => ?_
        refine R.nil ?_
        refine X.then_ ?_
        refine wp_ret ?_
        refine X.then_ret ?_
        exact L.ret hf (run_results1 Try.results10 (ResIs.tmp hf rfl)) ⟨y4, rfl, h, hs.nil⟩
      · replace h := h.2 hc
        refine S.k hf rfl fun a hf => ?_
        refine S.p hf hs (.bool false) rfl rfl fun a hf => ?_
        refine S.p hf hs (.bool false) rfl rfl fun a hf => ?_
        refine R.nil ?_
        refine X.then_ ?_
        refine wp_ret ?_
        refine X.then_ret ?_
        exact L.ret hf (run_results1 Try.results10 (ResIs.tmp hf rfl)) ⟨false, rfl, h, hs.nil⟩
    · replace h := h.2 hc
      refine wp_skip ?_
      refine X.then_ ?_
      refine wp_seq ?_
      refine R.list ?_
      refine S.p hf hs (iv 0) rfl rfl fun a hf => ?_
      refine R.nil ?_
      refine X.then_ ?_
      refine wp_seq ?_
      refine wp_seq ?_
      refine R.list ?_
      refine S.p hf hs (.slice y1A y1.length y1C) rfl rfl fun a hf => ?_
      refine S.v hf hs (iv (y1.length : Int)) rfl (V.len rfl rfl Try.runUnderlying47) fun a hf => ?_
      refine S.p hf hs (iv 0) rfl rfl fun a hf => ?_
      refine R.nil ?_
      refine X.then_ ?_
      refine wp_block ?_
      have hlenk2 := (hs.rowsView 0 rfl).len64
      refine C.range (fun (ll : List (List Cell)) a w => ∃ (k2 : Nat) (n2 : Int), y1.drop k2 = ll ∧ k2 + ll.length = y1.length ∧ forIn' (fun k x (s : Int) next => M_law_TreesJoin_L1 g c Q k x s (fun n2 => next n2)) (fun (s : Int) => (fun (n2 : Int) => M_ref7_Hangs pins y1 fun y8 => cnd (!y8) (M_law_TreesJoin_k3 g c pins Q y1 n2 true) (M_route_awake  fun y9 => M_law_TreesJoin_k3 g c pins Q y1 n2 (!y9))) s) ll k2 n2 ∧ FrOk 96 [(40, iv (k2 : Int)), (2, .slice pinsA pins.length pinsC), (3, (pn g1 0)), (4, (pn g2 0)), (7, .slice y1A y1.length y1C), (10, iv n2), (38, .slice y1A y1.length y1C), (39, iv (y1.length : Int))] a ∧ Sat w0 none_ [hrows 22 28 y1A y1C y1as y1, hbox g2 26 [iv c.Step, iv c.Via, iv c.Turn, iv c.Against], hbox g1 24 [iv g.W, iv g.H, iv g.Layers, .slice g_BlockedA g.Blocked.length g_BlockedC]] w) y1 ⟨0, 0, rfl, Nat.zero_add _, h, ((((((((hf.nil.cons (hf.get 39 _ rfl)).cons (hf.get 38 _ rfl)).cons (hf.get 10 _ rfl)).cons (hf.get 7 _ rfl)).cons (hf.get 4 _ rfl)).cons (hf.get 3 _ rfl)).cons (hf.get 2 _ rfl)).cons (hf.get 40 _ rfl)), hs⟩ ?_
      clear h hf hs
      rintro llk2 a w ⟨k2, n2, hlk2, hkk2, h, hf, hs⟩
      cases llk2 with
      | nil =>
        have hc := range_done hkk2
        replace h : (fun (n2 : Int) => M_ref7_Hangs pins y1 fun y8 => cnd (!y8) (M_law_TreesJoin_k3 g c pins Q y1 n2 true) (M_route_awake  fun y9 => M_law_TreesJoin_k3 g c pins Q y1 n2 (!y9))) n2 := h
        refine wp_seq ?_
        refine R.list ?_
        refine S.v hf hs (.bool false) rfl (V.cmp false rfl rfl rfl rfl hc) fun a hf => ?_
        refine R.nil ?_
        refine X.then_ ?_
        refine wp_seq ?_
        refine C.no hf rfl ?_
        refine wp_exit ?_
        refine X.then_exit ?_
        refine X.then_exit ?_
        refine X.blk_exit ?_
        refine X.then_ ?_
        refine wp_seq ?_
        refine wp_seq ?_
        refine C.cut (J := fun a w => ∃ (c2 : Bool), M_law_TreesJoin_k3 g c pins Q y1 n2 c2 ∧ FrOk 96 [(2, .slice pinsA pins.length pinsC), (3, (pn g1 0)), (4, (pn g2 0)), (7, .slice y1A y1.length y1C), (10, iv n2), (64, .bool c2)] a ∧ Sat w0 none_ [hrows 22 28 y1A y1C y1as y1, hbox g2 26 [iv c.Step, iv c.Via, iv c.Turn, iv c.Against], hbox g1 24 [iv g.W, iv g.H, iv g.Layers, .slice g_BlockedA g.Blocked.length g_BlockedC]] w) ?_ ?_
        · rintro a w ⟨c2, h, hf, hs⟩
          unfold M_law_TreesJoin_k3 at h
          refine C.cond hf (b := c2) rfl (fun hc => ?_) (fun hc => ?_)
          · replace h := h.1 hc
            refine wp_seq ?_
            refine R.list ?_
            refine S.p hf hs (.bool false) rfl rfl fun a hf => ?_
            refine R.nil ?_
            refine X.then_ ?_
            refine wp_ret ?_
            refine X.then_ret ?_
            exact L.ret hf (run_results1 Try.results10 (ResIs.tmp hf rfl)) ⟨false, rfl, h, hs.nil⟩
          · replace h := h.2 hc
            refine wp_skip ?_
            refine X.then_ ?_
            refine wp_seq ?_
            refine wp_seq ?_
            refine R.list ?_
            refine S.p hf hs (.slice pinsA pins.length pinsC) rfl rfl fun a hf => ?_
            refine S.v hf hs (iv (pins.length : Int)) rfl (V.len rfl rfl Try.runUnderlying22) fun a hf => ?_
            refine S.p hf hs (.bool ((pins.length : Int) == 2)) rfl rfl fun a hf => ?_
            refine R.nil ?_
            refine X.then_ ?_
            refine C.cond hf (b := (pins.length : Int) == 2) rfl (fun hc => ?_) (fun hc => ?_)
            · replace h := h.1 hc
              refine wp_seq ?_
              refine H.start (S := Sat w0 none_ [hrows 22 28 y1A y1C y1as y1, hbox g2 26 [iv c.Step, iv c.Via, iv c.Turn, iv c.Against], hbox g1 24 [iv g.W, iv g.H, iv g.Layers, .slice g_BlockedA g.Blocked.length g_BlockedC]]) mo ?_
              replace hs := hs.drew
              refine H.v hf hs (.agg #[iv g.W, iv g.H, iv g.Layers, .slice g_BlockedA g.Blocked.length g_BlockedC]) 0 rfl rfl (by kernel_rfl) (V.loadBox 2 rfl rfl rfl Try.isAgg24 Try.sizeOf24 rfl rfl) fun a hf => ?_
              refine H.v hf hs (.agg #[iv c.Step, iv c.Via, iv c.Turn, iv c.Against]) 1 rfl rfl (by kernel_rfl) (V.loadBox 1 rfl rfl rfl Try.isAgg26 Try.sizeOf26 rfl rfl) fun a hf => ?_
              refine H.v hf hs (.slice pinsA pins.length pinsC) 2 rfl rfl (by kernel_rfl) (V.pure rfl) fun a hf => ?_
              obtain ⟨h0x1, x1, hx1, h⟩ := h
              refine H.v hf hs (elemPtr pinsA (0 * 3)) 3 rfl rfl (by kernel_rfl) (V.index rfl rfl rfl Try.runUnderlying22 Try.sizeOf28 (hv_pins.some_ (lt_of_get hx1)) h0x1 (lt_of_get hx1) rfl) fun a hf => ?_
              refine H.v hf hs (.agg #[iv x1.X, iv x1.Y, iv x1.Layer]) 4 rfl rfl (by kernel_rfl) (V.loadEl (off := 0) (Ag.args _ _ _) (hv_pins.flat hx1) rfl rfl rfl Try.isAgg28 Try.sizeOf28 rfl rfl) fun a hf => ?_
              refine H.v hf hs (.slice pinsA pins.length pinsC) 5 rfl rfl (by kernel_rfl) (V.pure rfl) fun a hf => ?_
              obtain ⟨h0x2, x2, hx2, h⟩ := h
              refine H.v hf hs (elemPtr pinsA (1 * 3)) 6 rfl rfl (by kernel_rfl) (V.index rfl rfl rfl Try.runUnderlying22 Try.sizeOf28 (hv_pins.some_ (lt_of_get hx2)) h0x2 (lt_of_get hx2) rfl) fun a hf => ?_
              refine H.v hf hs (.agg #[iv x2.X, iv x2.Y, iv x2.Layer]) 7 rfl rfl (by kernel_rfl) (V.loadEl (off := 0) (Ag.args _ _ _) (hv_pins.flat hx2) rfl rfl rfl Try.isAgg28 Try.sizeOf28 rfl rfl) fun a hf => ?_
              refine H.one (i := 8) rfl (by kernel_rfl) ?_
              refine S.call hf rfl rfl rfl (call_fn (vs := [.agg #[iv g.W, iv g.H, iv g.Layers, .slice g_BlockedA g.Blocked.length g_BlockedC], .agg #[iv c.Step, iv c.Via, iv c.Turn, iv c.Against], .agg #[iv x1.X, iv x1.Y, iv x1.Layer], .agg #[iv x2.X, iv x2.Y, iv x2.Layer]]) rfl rfl rfl Try.call12) (R_route_Least g c x1 x2 _ g_BlockedA g_BlockedC ((Ag.args _ _ _).view hv_g_Blocked hs) _ h) (fun v a w' hf hr => ?_)
              obtain ⟨y5, y6, y7, rfl, h2, hs2⟩ := hr
              replace h := h2; replace hs := hs.call hs2; clear h2 hs2
              refine R.nil ?_
              refine X.then_ ?_
              refine ⟨hs, ?_⟩
              refine H.v hf hs (.tuple #[iv y5, .bool y6, iv y7]) 9 rfl rfl (by kernel_rfl) (V.pure rfl) fun a hf => ?_
              refine H.v hf hs (iv y5) 10 rfl rfl (by kernel_rfl) (V.pure rfl) fun a hf => ?_
              refine H.v hf hs (.bool y6) 11 rfl rfl (by kernel_rfl) (V.pure rfl) fun a hf => ?_
              refine H.v hf hs (iv y7) 12 rfl rfl (by kernel_rfl) (V.pure rfl) fun a hf => ?_
              refine H.v hf hs (iv y5) 13 rfl rfl (by kernel_rfl) (V.pure rfl) fun a hf => ?_
              refine H.v hf hs (.bool y6) 14 rfl rfl (by kernel_rfl) (V.pure rfl) fun a hf => ?_
              refine H.v hf hs (iv y7) 15 rfl rfl (by kernel_rfl) (V.pure rfl) fun a hf => ?_
              refine H.done (by kernel_rfl) ?_
              refine X.then_ ?_
              refine wp_seq ?_
              refine R.list ?_
              refine S.p hf hs (iv y7) rfl rfl fun a hf => ?_
              refine S.p hf hs (.bool (y7 == 0)) rfl rfl fun a hf => ?_
              refine S.split hf hs (b := y7 == 0) rfl rfl rfl (V.pure rfl) (fun hc a hf => ?_) (fun hc a hf => ?_)
              · replace h := h.1 hc
                refine S.p hf hs (.bool y6) rfl rfl fun a hf => ?_
                refine S.p hf hs (.bool y6) rfl rfl fun a hf => ?_
                refine S.split hf hs (b := y6) rfl rfl rfl (V.pure rfl) (fun hc a hf => ?_) (fun hc a hf => ?_)
                · replace h := h.1 hc
                  refine S.p hf hs (iv y5) rfl rfl fun a hf => ?_
                  refine S.p hf hs (iv n2) rfl rfl fun a hf => ?_
                  refine S.p hf hs (.bool (y5 == n2)) rfl rfl fun a hf => ?_
                  refine S.p hf hs (.bool (y5 == n2)) rfl rfl fun a hf => ?_
                  refine S.split hf hs (b := y5 == n2) rfl rfl rfl (V.pure rfl) (fun hc a hf => ?_) (fun hc a hf => ?_)
                  · replace h := h.1 hc
                    refine S.p hf hs (.slice y1A y1.length y1C) rfl rfl fun a hf => ?_
                    refine S.v hf hs (iv (y1.length : Int)) rfl (V.len rfl rfl Try.runUnderlying47) fun a hf => ?_
                    refine S.p hf hs (.bool ((y1.length : Int) == 1)) rfl rfl fun a hf => ?_
                    refine S.p hf hs (.bool ((y1.length : Int) == 1)) rfl rfl fun a hf => ?_
                    refine S.p hf hs (.bool ((y1.length : Int) == 1)) rfl rfl fun a hf => ?_
                    refine R.nil ?_
                    refine X.then_ ?_
                    refine wp_ret ?_
                    refine X.then_ret ?_
                    exact L.ret hf (run_results1 Try.results10 (ResIs.tmp hf rfl)) ⟨((y1.length : Int) == 1), rfl, h, hs.nil⟩
                  · replace h := h.2 hc
                    refine S.k hf rfl fun a hf => ?_
                    refine S.k hf rfl fun a hf => ?_
                    refine S.k hf rfl fun a hf => ?_
                    refine S.p hf hs (.bool false) rfl rfl fun a hf => ?_
                    refine S.p hf hs (.bool false) rfl rfl fun a hf => ?_
                    refine R.nil ?_
                    refine X.then_ ?_
                    refine wp_ret ?_
                    refine X.then_ret ?_
                    exact L.ret hf (run_results1 Try.results10 (ResIs.tmp hf rfl)) ⟨false, rfl, h, hs.nil⟩
                · replace h := h.2 hc
                  refine S.k hf rfl fun a hf => ?_
                  refine S.k hf rfl fun a hf => ?_
                  refine S.k hf rfl fun a hf => ?_
                  refine S.p hf hs (.bool false) rfl rfl fun a hf => ?_
                  refine S.p hf hs (.bool false) rfl rfl fun a hf => ?_
                  refine S.k hf rfl fun a hf => ?_
                  refine S.k hf rfl fun a hf => ?_
                  refine S.k hf rfl fun a hf => ?_
                  refine S.p hf hs (.bool false) rfl rfl fun a hf => ?_
                  refine S.p hf hs (.bool false) rfl rfl fun a hf => ?_
                  refine R.nil ?_
                  refine X.then_ ?_
                  refine wp_ret ?_
                  refine X.then_ret ?_
                  exact L.ret hf (run_results1 Try.results10 (ResIs.tmp hf rfl)) ⟨false, rfl, h, hs.nil⟩
              · replace h := h.2 hc
                refine S.k hf rfl fun a hf => ?_
                refine S.p hf hs (.bool false) rfl rfl fun a hf => ?_
                refine S.p hf hs (.bool false) rfl rfl fun a hf => ?_
                refine S.k hf rfl fun a hf => ?_
                refine S.k hf rfl fun a hf => ?_
                refine S.k hf rfl fun a hf => ?_
                refine S.p hf hs (.bool false) rfl rfl fun a hf => ?_
                refine S.p hf hs (.bool false) rfl rfl fun a hf => ?_
                refine S.k hf rfl fun a hf => ?_
                refine S.k hf rfl fun a hf => ?_
                refine S.k hf rfl fun a hf => ?_
                refine S.p hf hs (.bool false) rfl rfl fun a hf => ?_
                refine S.p hf hs (.bool false) rfl rfl fun a hf => ?_
                refine R.nil ?_
                refine X.then_ ?_
                refine wp_ret ?_
                refine X.then_ret ?_
                exact L.ret hf (run_results1 Try.results10 (ResIs.tmp hf rfl)) ⟨false, rfl, h, hs.nil⟩
            · replace h := h.2 hc
              refine wp_skip ?_
              refine X.then_ ?_
              refine wp_seq ?_
              refine R.list ?_
              refine S.p hf hs (.bool true) rfl rfl fun a hf => ?_
              refine R.nil ?_
              refine X.then_ ?_
              refine wp_ret ?_
              exact L.ret hf (run_results1 Try.results10 (ResIs.tmp hf rfl)) ⟨true, rfl, h, hs.nil⟩
        · skip
          refine R.list ?_
          refine S.p hf hs (.slice pinsA pins.length pinsC) rfl rfl fun a hf => ?_
          refine S.p hf hs (.slice y1A y1.length y1C) rfl rfl fun a hf => ?_
          refine S.call hf rfl rfl rfl (call_fn (vs := [.slice pinsA pins.length pinsC, .slice y1A y1.length y1C]) rfl rfl rfl Try.call33) (R_ref7_Hangs pins y1 _ pinsA pinsC ((Ag.args _ _ _).view hv_pins hs) y1A y1C (hs.rowsView 0 rfl) _ h) (fun v a w' hf hr => ?_)
          obtain ⟨y8, rfl, h2, hs2⟩ := hr
          replace h := h2; replace hs := hs.call hs2; clear h2 hs2
          refine S.p hf hs (.bool (!y8)) rfl rfl fun a hf => ?_
          refine S.split hf hs (b := !y8) rfl rfl rfl (V.pure rfl) (fun hc a hf => ?_) (fun hc a hf => ?_)
          · replace h := h.1 hc
            refine S.k hf rfl fun a hf => ?_
            refine S.k hf rfl fun a hf => ?_
            refine S.p hf hs (.bool true) rfl rfl fun a hf => ?_
            refine R.nil ?_
            refine X.then_ ?_
            exact ⟨true, h, ((((((hf.nil.cons (hf.get 64 _ rfl)).cons (hf.get 10 _ rfl)).cons (hf.get 7 _ rfl)).cons (hf.get 4 _ rfl)).cons (hf.get 3 _ rfl)).cons (hf.get 2 _ rfl)), hs⟩
          · replace h := h.2 hc
            refine S.call hf rfl rfl rfl (call_fn (vs := []) rfl rfl rfl Try.call13) (R_route_awake  _  _ h) (fun v a w' hf hr => ?_)
            obtain ⟨y9, rfl, h2, hs2⟩ := hr
            replace h := h2; replace hs := hs.call hs2; clear h2 hs2
            refine S.p hf hs (.bool (!y9)) rfl rfl fun a hf => ?_
            refine S.p hf hs (.bool (!y9)) rfl rfl fun a hf => ?_
            refine R.nil ?_
            refine X.then_ ?_
            exact ⟨(!y9), h, ((((((hf.nil.cons (hf.get 64 _ rfl)).cons (hf.get 10 _ rfl)).cons (hf.get 7 _ rfl)).cons (hf.get 4 _ rfl)).cons (hf.get 3 _ rfl)).cons (hf.get 2 _ rfl)), hs⟩
      | cons xk2 llk2 =>
        have hltk2 := range_lt hkk2; have hc := range_go hkk2; have hxk2 := range_get hlk2
        obtain ⟨next1, hnext1⟩ : ∃ X : Int → Prop, X = (fun n2 => forIn' (fun k x (s : Int) next => M_law_TreesJoin_L1 g c Q k x s (fun n2 => next n2)) (fun (s : Int) => (fun (n2 : Int) => M_ref7_Hangs pins y1 fun y8 => cnd (!y8) (M_law_TreesJoin_k3 g c pins Q y1 n2 true) (M_route_awake  fun y9 => M_law_TreesJoin_k3 g c pins Q y1 n2 (!y9))) s) llk2 (k2 + 1) n2) := ⟨_, rfl⟩
        replace h : M_law_TreesJoin_L1 g c Q k2 xk2 n2 next1 := by rw [hnext1]; exact h
        unfold M_law_TreesJoin_L1 at h
        refine wp_seq ?_
        refine R.list ?_
        refine S.v hf hs (.bool true) rfl (V.cmp true rfl rfl rfl rfl hc) fun a hf => ?_
        refine R.nil ?_
        refine X.then_ ?_
        refine wp_seq ?_
        refine C.yes hf rfl ?_
        refine wp_skip ?_
        refine X.then_ ?_
        refine wp_seq ?_
        refine wp_block ?_
        refine wp_seq ?_
        refine R.list ?_
        refine S.v hf hs (elemPtr y1A (k2 * 1)) rfl (V.index rfl rfl rfl Try.runUnderlying47 Try.sizeOf22 (hs.rowsSome 0 rfl hxk2) (Int.natCast_nonneg _) (lt_of_get hxk2) rfl) fun a hf => ?_
        obtain ⟨B1, D1, hrB1⟩ := hs.rowAt 0 rfl hxk2
        refine S.v hf hs (.slice B1 xk2.length D1) rfl (V.loadRows (off := 0) 0 rfl hxk2 hrB1 rfl rfl rfl Try.isAgg22 Try.sizeOf22 rfl rfl) fun a hf => ?_
        refine S.p hf hs (.slice B1 xk2.length D1) rfl rfl fun a hf => ?_
        refine R.nil ?_
        refine X.then_ ?_
        refine wp_seq ?_
        refine R.list ?_
        refine S.v hf hs (.agg #[iv g.W, iv g.H, iv g.Layers, .slice g_BlockedA g.Blocked.length g_BlockedC]) rfl (V.loadBox 2 rfl rfl rfl Try.isAgg24 Try.sizeOf24 rfl rfl) fun a hf => ?_
        refine S.v hf hs (.agg #[iv c.Step, iv c.Via, iv c.Turn, iv c.Against]) rfl (V.loadBox 1 rfl rfl rfl Try.isAgg26 Try.sizeOf26 rfl rfl) fun a hf => ?_
        refine S.p hf hs (.slice B1 xk2.length D1) rfl rfl fun a hf => ?_
        refine S.call hf rfl rfl rfl (call_fn (vs := [.agg #[iv g.W, iv g.H, iv g.Layers, .slice g_BlockedA g.Blocked.length g_BlockedC], .agg #[iv c.Step, iv c.Via, iv c.Turn, iv c.Against], .slice B1 xk2.length D1]) rfl rfl rfl Try.call20) (R_route_CostOf g c xk2 _ g_BlockedA g_BlockedC ((Ag.args _ _ _).view hv_g_Blocked hs) B1 D1 (hs.rowView 0 rfl hxk2 hrB1) _ h) (fun v a w' hf hr => ?_)
        obtain ⟨y10, y11, rfl, h2, hs2⟩ := hr
        replace h := h2; replace hs := hs.call hs2; clear h2 hs2
        refine S.p hf hs (.tuple #[iv y10, iv y11]) rfl rfl fun a hf => ?_
        refine S.p hf hs (iv y10) rfl rfl fun a hf => ?_
        refine S.p hf hs (iv y11) rfl rfl fun a hf => ?_
        refine S.p hf hs (iv y10) rfl rfl fun a hf => ?_
        refine S.p hf hs (iv y11) rfl rfl fun a hf => ?_
        refine R.nil ?_
        refine X.then_ ?_
        refine wp_seq ?_
        refine wp_seq ?_
        refine R.list ?_
        refine S.p hf hs (iv y11) rfl rfl fun a hf => ?_
        refine S.p hf hs (.bool (y11 != 0)) rfl rfl fun a hf => ?_
        refine R.nil ?_
        refine X.then_ ?_
        refine C.cond hf (b := y11 != 0) rfl (fun hc => ?_) (fun hc => ?_)
        · replace h := h.1 hc
          refine wp_seq ?_
          refine R.list ?_
          refine S.p hf hs (.bool false) rfl rfl fun a hf => ?_
          refine R.nil ?_
          refine X.then_ ?_
          refine wp_ret ?_
          refine X.then_ret ?_
          refine X.blk_ret ?_
          refine X.then_ret ?_
          refine X.then_ret ?_
          refine X.blk_ret ?_
          refine X.then_ret ?_
          exact L.ret hf (run_results1 Try.results10 (ResIs.tmp hf rfl)) ⟨false, rfl, h, hs.nil⟩
        · replace h := h.2 hc
          refine wp_skip ?_
          refine X.then_ ?_
          refine R.list ?_
          refine S.p hf hs (iv n2) rfl rfl fun a hf => ?_
          refine S.p hf hs (iv y10) rfl rfl fun a hf => ?_
          refine S.p hf hs (iv (w64 (n2 + y10))) rfl rfl fun a hf => ?_
          refine S.p hf hs (iv (w64 (n2 + y10))) rfl rfl fun a hf => ?_
          refine R.nil ?_
          refine X.blk ?_
          refine X.then_ ?_
          refine R.list ?_
          refine S.v hf hs (iv ((k2 + 1 : Nat) : Int)) rfl (V.incr rfl rfl rfl hltk2 hlenk2) fun a hf => ?_
          refine S.p hf hs (iv ((k2 + 1 : Nat) : Int)) rfl rfl fun a hf => ?_
          refine R.nil ?_
          refine X.then_ ?_
          exact ⟨xk2, llk2, rfl, k2 + 1, (w64 (n2 + y10)), range_drop hlk2, range_len hkk2, (by rw [hnext1] at h; exact h), ((((((((hf.nil.cons (hf.get 39 _ rfl)).cons (hf.get 38 _ rfl)).cons (hf.get 10 _ rfl)).cons (hf.get 7 _ rfl)).cons (hf.get 4 _ rfl)).cons (hf.get 3 _ rfl)).cons (hf.get 2 _ rfl)).cons (hf.get 40 _ rfl)), hs⟩
  · skip
    refine R.list ?_
    refine S.p hf hs (iv y3) rfl rfl fun a hf => ?_
    refine S.p hf hs (.bool (y3 != 0)) rfl rfl fun a hf => ?_
    refine S.split hf hs (b := y3 != 0) rfl rfl rfl (V.pure rfl) (fun hc a hf => ?_) (fun hc a hf => ?_)
    · replace h := h.1 hc
      refine S.k hf rfl fun a hf => ?_
      refine S.k hf rfl fun a hf => ?_
      refine S.p hf hs (.bool true) rfl rfl fun a hf => ?_
      refine R.nil ?_
      refine X.then_ ?_
      exact ⟨true, h, (((((hf.nil.cons (hf.get 31 _ rfl)).cons (hf.get 7 _ rfl)).cons (hf.get 4 _ rfl)).cons (hf.get 3 _ rfl)).cons (hf.get 2 _ rfl)), hs⟩
    · replace h := h.2 hc
      refine S.p hf hs (.bool y2) rfl rfl fun a hf => ?_
      refine S.p hf hs (.bool (!y2)) rfl rfl fun a hf => ?_
      refine S.p hf hs (.bool (!y2)) rfl rfl fun a hf => ?_
      refine R.nil ?_
      refine X.then_ ?_
      exact ⟨(!y2), h, (((((hf.nil.cons (hf.get 31 _ rfl)).cons (hf.get 7 _ rfl)).cons (hf.get 4 _ rfl)).cons (hf.get 3 _ rfl)).cons (hf.get 2 _ rfl)), hs⟩


end Go.Proofs.Ytihjaehkdgdenaa

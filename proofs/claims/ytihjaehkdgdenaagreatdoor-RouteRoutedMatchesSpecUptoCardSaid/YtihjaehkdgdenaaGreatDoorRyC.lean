/- Chapter texts of ours, as far as the claim needs them. -/
import Derived.Test.YtihjaehkdgdenaaGreatDoorRyA
import Derived.Test.YtihjaehkdgdenaaGreatDoorRtG3
namespace Go.Proofs.YtihjaehkdgdenaaGreatDoor
open Go Go.RowKit
set_option linter.unusedVariables false
set_option linter.unusedSectionVars false
set_option linter.unusedSimpArgs false
set_option maxHeartbeats 1000000
def M_index_bool_L1 (v_ : Bool) (Q : Int → Prop) (k1 : Nat) (xk1 : Bool)  (next1 : Prop) : Prop :=
  cnd (v_ == xk1) (Q (k1 : Int)) (next1)
def M_index_bool (s_ : (List Bool)) (v_ : Bool) (Q : Int → Prop) : Prop :=
  forIn' (fun k x (s : Unit) next => M_index_bool_L1 v_ Q k x (next ())) (fun (s : Unit) => Q (-1)) s_ 0 ()
theorem R_index_bool (s_ : (List Bool)) (v_ : Bool) (w0 : World) (s_A : Option Addr) (s_C : Nat) (hv_s_ : View w0 (old w0 none_) s_A s_C s_) (Q : Int → Prop) (h : M_index_bool s_ v_ Q) :
  Ret Tryz.prog 95 #[.slice s_A s_.length s_C, .bool v_] w0 fun v w' => ∃ (r0 : Int), v = iv r0 ∧ Q r0 ∧ Sat w0 none_ [] w' := by
 refine fn_enter Tryz.func95 rfl Tryz.ntmps95 rfl (fs := [(0, .slice s_A s_.length s_C), (1, .bool v_)]) rfl (fun a hf => ?_)
 have hs := Sat.start w0 none_
 unfold M_index_bool at h
 refine wp_seq (R.list (S.p hf hs (iv 0) rfl rfl fun a hf => R.nil (X.then_ (wp_seq (wp_seq (R.list (S.p hf hs (.slice s_A s_.length s_C) rfl rfl fun a hf => S.v hf hs (iv (s_.length : Int)) rfl (V.len rfl rfl Tryz.runUnderlying49) fun a hf => S.p hf hs (iv 0) rfl rfl fun a hf => R.nil (X.then_ (wp_block ?_)))))))))
 have hlenk1 := hv_s_.len64
 refine C.range (fun (ll : List Bool) a w => ∃ (k1 : Nat) , s_.drop k1 = ll ∧ k1 + ll.length = s_.length ∧ forIn' (fun k x (s : Unit) next => M_index_bool_L1 v_ Q k x (next ())) (fun (s : Unit) => Q (-1)) ll k1 () ∧ FrOk 19 [(8, iv (k1 : Int)), (0, .slice s_A s_.length s_C), (1, .bool v_), (7, iv (s_.length : Int))] a ∧ Sat w0 none_ [] w) s_ ⟨0, rfl, Nat.zero_add _, h, ((((hf.nil.cons (hf.get 7 _ rfl)).cons (hf.get 1 _ rfl)).cons (hf.get 0 _ rfl)).cons (hf.get 8 _ rfl)), hs⟩ ?_
 clear h hf hs
 rintro llk1 a w ⟨k1, hlk1, hkk1, h, hf, hs⟩
 cases llk1 with
 | nil =>
  have hc := range_done hkk1
  replace h : Q (-1) := h
  refine wp_seq (R.list (S.v hf hs (.bool false) rfl (V.cmp false rfl rfl rfl rfl hc) fun a hf => R.nil (X.then_ (wp_seq (C.no hf rfl (wp_exit (X.then_exit (X.then_exit (X.blk_exit (X.then_ (wp_seq (R.list (S.p hf hs (iv (-1)) rfl rfl fun a hf => R.nil (X.then_ (wp_ret ?_)))))))))))))))
  exact L.ret hf (run_results1 Tryz.results95 (ResIs.tmp hf rfl)) ⟨(-1), rfl, h, hs.nil⟩
 | cons xk1 llk1 =>
  have hltk1 := range_lt hkk1; have hc := range_go hkk1; have hxk1 := range_get hlk1
  obtain ⟨next1, hnext1⟩ : ∃ X : Prop, X = (forIn' (fun k x (s : Unit) next => M_index_bool_L1 v_ Q k x (next ())) (fun (s : Unit) => Q (-1)) llk1 (k1 + 1) ()) := ⟨_, rfl⟩
  replace h : M_index_bool_L1 v_ Q k1 xk1  next1 := by rw [hnext1]; exact h
  unfold M_index_bool_L1 at h
  refine wp_seq (R.list (S.v hf hs (.bool true) rfl (V.cmp true rfl rfl rfl rfl hc) fun a hf => R.nil (X.then_ (wp_seq (C.yes hf rfl (wp_skip (X.then_ (wp_seq (wp_block (wp_seq (R.list (S.p hf hs (iv (k1 : Int)) rfl rfl fun a hf => S.p hf hs (iv (k1 : Int)) rfl rfl fun a hf => R.nil (X.then_ (wp_seq (R.list ?_)))))))))))))))
  refine S.p hf hs (.bool v_) rfl rfl fun a hf => S.p hf hs (.slice s_A s_.length s_C) rfl rfl fun a hf => S.p hf hs (iv (k1 : Int)) rfl rfl fun a hf => S.v hf hs (elemPtr s_A (k1 * 1)) rfl (V.index rfl rfl rfl Tryz.runUnderlying49 Tryz.sizeOf4 (hv_s_.some_ (lt_of_get hxk1)) (Int.natCast_nonneg _) (lt_of_get hxk1) rfl) fun a hf => S.v hf hs (.bool xk1) rfl (V.loadEl (off := 0) (Ag.args _ _ _) (hv_s_.flat hxk1) rfl rfl rfl Tryz.isAgg4 Tryz.sizeOf4 rfl rfl) fun a hf => S.v hf hs (.bool (v_ == xk1)) rfl (V.boolEq rfl rfl rfl Tryz.underlying4 rfl) fun a hf => R.nil (X.then_ ?_)
  refine C.cond hf (b := v_ == xk1) rfl (fun hc => ?_) (fun hc => ?_)
  ·replace h := h.1 hc
   refine wp_seq (R.list (S.p hf hs (iv (k1 : Int)) rfl rfl fun a hf => S.p hf hs (iv (k1 : Int)) rfl rfl fun a hf => R.nil (X.then_ (wp_ret (X.blk_ret (X.then_ret (X.then_ret (X.blk_ret (X.then_ret ?_)))))))))
   exact L.ret hf (run_results1 Tryz.results95 (ResIs.tmp hf rfl)) ⟨(k1 : Int), rfl, h, hs.nil⟩
  ·replace h := h.2 hc
   refine wp_skip (X.blk (X.then_ (R.list (S.v hf hs (iv ((k1 + 1 : Nat) : Int)) rfl (V.incr rfl rfl rfl hltk1 hlenk1) fun a hf => S.p hf hs (iv ((k1 + 1 : Nat) : Int)) rfl rfl fun a hf => R.nil (X.then_ ?_)))))
   exact ⟨xk1, llk1, rfl, k1 + 1, range_drop hlk1, range_len hkk1, (by rw [hnext1] at h; exact h), ((((hf.nil.cons (hf.get 7 _ rfl)).cons (hf.get 1 _ rfl)).cons (hf.get 0 _ rfl)).cons (hf.get 8 _ rfl)), hs⟩
def M_contains_bool (s_ : (List Bool)) (v_ : Bool) (Q : Bool → Prop) : Prop :=
  M_index_bool s_ v_ fun y1 => Q (decide (y1 ≥ 0))
theorem R_contains_bool (s_ : (List Bool)) (v_ : Bool) (w0 : World) (s_A : Option Addr) (s_C : Nat) (hv_s_ : View w0 (old w0 none_) s_A s_C s_) (Q : Bool → Prop) (h : M_contains_bool s_ v_ Q) :
  Ret Tryz.prog 74 #[.slice s_A s_.length s_C, .bool v_] w0 fun v w' => ∃ (r0 : Bool), v = .bool r0 ∧ Q r0 ∧ Sat w0 none_ [] w' := by
 refine fn_enter Tryz.func74 rfl Tryz.ntmps74 rfl (fs := [(0, .slice s_A s_.length s_C), (1, .bool v_)]) rfl (fun a hf => ?_)
 have hs := Sat.start w0 none_
 unfold M_contains_bool at h
 refine wp_seq (R.list (S.p hf hs (.bool false) rfl rfl fun a hf => R.nil (X.then_ (wp_seq (R.list (S.p hf hs (.slice s_A s_.length s_C) rfl rfl fun a hf => S.p hf hs (.bool v_) rfl rfl fun a hf => S.call hf rfl rfl rfl (call_fn (vs := [.slice s_A s_.length s_C, .bool v_]) rfl rfl rfl Tryz.call95) (R_index_bool s_ v_ _ s_A s_C ((Ag.args _ _ _).view hv_s_ hs) _ h) (fun v a w' hf hr => ?_)))))))
 obtain ⟨y1, rfl, h2, hs2⟩ := hr
 replace h := h2; replace hs := hs.call hs2; clear h2 hs2
 refine S.p hf hs (.bool (decide (y1 ≥ 0))) rfl rfl fun a hf => S.p hf hs (.bool (decide (y1 ≥ 0))) rfl rfl fun a hf => R.nil (X.then_ (wp_ret ?_))
 exact L.ret hf (run_results1 Tryz.results74 (ResIs.tmp hf rfl)) ⟨(decide (y1 ≥ 0)), rfl, h, hs.nil⟩
def M_ref7_hangs_L3 (k2 : Nat) (l8 : List Cell) (k3 : Nat) (xk3 : Cell) (l10 : List Bool) (next3 : List Bool → Prop) : Prop :=
  idx l10 (k2 : Int) fun x4 => cnd x4 (next3 (l10.set k2 true)) (M_contains_cell l8 xk3 fun y1 => next3 (l10.set k2 y1))
def M_ref7_hangs_L2  (k2 : Nat) (xk2 : (List Cell)) (l7 : List Bool) (l8 : List Cell) (c4 : Bool) (next2 : List Bool → List Cell → Bool → Prop) : Prop :=
  idx l7 (k2 : Int) fun x2 => cnd x2 (next2 l7 l8 c4) (forIn' (fun k x (s : List Bool) next => M_ref7_hangs_L3 k2 l8 k x s (fun l10 => next l10)) (fun (s : List Bool) => (fun (l10 : List Bool) => idx l10 (k2 : Int) fun x3 => cnd x3 (must (room (l8 ++ xk2).length 24) (next2 l10 (l8 ++ xk2) true)) (next2 l10 l8 c4)) s) xk2 0 l7)
def M_ref7_hangs_L4 (Q : Bool → Prop) (l4 : List Cell) (k4 : Nat) (xk4 : Cell)  (next4 : Prop) : Prop :=
  M_contains_cell l4 xk4 fun y3 => cnd (!y3) (Q false) (next4)
def M_ref7_hangs_L1 (pins : (List Cell)) (ways : (List (List Cell))) (Q : Bool → Prop) (again1 : List Bool → List Cell → Bool → Prop) (l3 : List Bool) (l4 : List Cell) (c2 : Bool) : Prop :=
  cnd c2 (forIn' (fun k x (s : List Bool × List Cell × Bool) next => M_ref7_hangs_L2 k x s.1 s.2.1 s.2.2 (fun l7 l8 c4 => next (l7, l8, c4))) (fun (s : List Bool × List Cell × Bool) => (fun (l7 : List Bool) (l8 : List Cell) (c4 : Bool) => again1 l7 l8 c4) s.1 s.2.1 s.2.2) ways 0 (l3, l4, false)) (forIn' (fun k x (s : Unit) next => M_ref7_hangs_L4 Q l4 k x (next ())) (fun (s : Unit) => M_contains_bool l3 false fun y2 => Q (!y2)) pins 0 ())
def M_ref7_hangs (pins : (List Cell)) (ways : (List (List Cell))) (Q : Bool → Prop) : Prop :=
  idx pins 0 fun x1 => must (0 ≤ (ways.length : Int) ∧ (ways.length : Int) * 1 ≤ 281474976710656) (lp (fun again (s : List Bool × List Cell × Bool) => M_ref7_hangs_L1 pins ways Q (fun l3 l4 c2 => again (l3, l4, c2)) s.1 s.2.1 s.2.2) ((List.replicate ways.length false), [x1], true))
theorem R_ref7_hangs (pins : (List Cell)) (ways : (List (List Cell))) (w0 : World) (pinsA : Option Addr) (pinsC : Nat) (hv_pins : View w0 (old w0 none_) pinsA pinsC pins) (waysA : Option Addr) (waysC : Nat) (hv_ways : View w0 (old w0 none_) waysA waysC ways) (Q : Bool → Prop) (h : M_ref7_hangs pins ways Q) :
  Ret Tryz.prog 31 #[.slice pinsA pins.length pinsC, .slice waysA ways.length waysC] w0 fun v w' => ∃ (r0 : Bool), v = .bool r0 ∧ Q r0 ∧ Sat w0 none_ [] w' := by
 refine fn_enter Tryz.func31 rfl Tryz.ntmps31 rfl (fs := [(0, .slice pinsA pins.length pinsC), (1, .slice waysA ways.length waysC)]) rfl (fun a hf => ?_)
 have hs := Sat.start w0 none_
 unfold M_ref7_hangs at h
 refine wp_seq (R.list (S.p hf hs (.bool false) rfl rfl fun a hf => R.nil (X.then_ (wp_seq (R.list (S.p hf hs (.slice pinsA pins.length pinsC) rfl rfl fun a hf => ?_))))))
 obtain ⟨h0x1, x1, hx1, h⟩ := h
 refine S.v hf hs (elemPtr pinsA (0 * 3)) rfl (V.index rfl rfl rfl Tryz.runUnderlying22 Tryz.sizeOf55 (hv_pins.some_ (lt_of_get hx1)) h0x1 (lt_of_get hx1) rfl) fun a hf => S.v hf hs (.agg #[iv x1.X, iv x1.Y, iv x1.Layer]) rfl (V.loadEl (off := 0) (Ag.args _ _ _) (hv_pins.flat hx1) rfl rfl rfl Tryz.isAgg55 Tryz.sizeOf55 rfl rfl) fun a hf => S.build1 hf hs rfl rfl rfl (α := Cell) x1 rfl rfl rfl Tryz.runUnderlying22 Tryz.sizeOf55 Tryz.zeroValue55 rfl (by decide) (fun A1 a w hf hs => S.p hf hs (.slice A1 [x1].length 1) rfl rfl fun a hf => R.nil (X.then_ (wp_seq (R.list (S.p hf hs (.slice waysA ways.length waysC) rfl rfl fun a hf => S.v hf hs (iv (ways.length : Int)) rfl (V.len rfl rfl Tryz.runUnderlying45) fun a hf => ?_)))))
 obtain ⟨hmk, h⟩ := h
 refine S.make hf hs rfl rfl rfl (α := Bool) false (z := (ways.length : Int)) (N := ways.length) rfl rfl rfl Tryz.underlying49 info4 hmk rfl (by have := hmk.2; omega) (fun A2 a w hf hs => S.p hf hs (.slice A2 (List.replicate ways.length false).length ways.length) rfl rfl fun a hf => R.nil (X.then_ (wp_seq (wp_seq (R.list (S.p hf hs (.bool true) rfl rfl fun a hf => R.nil (X.then_ (wp_block ?_))))))))
 obtain ⟨kk, h⟩ := h
 refine C.loop (fun kk a w => ∃ (l3 : List Bool) (l3A : Option Addr) (l3C : Nat) (l4 : List Cell) (l4A : Option Addr) (l4C : Nat) (c2 : Bool), iterF (fun again (s : List Bool × List Cell × Bool) => M_ref7_hangs_L1 pins ways Q (fun l3 l4 c2 => again (l3, l4, c2)) s.1 s.2.1 s.2.2) kk (l3, l4, c2) ∧ FrOk 74 [(0, .slice pinsA pins.length pinsC), (1, .slice waysA ways.length waysC), (5, .slice l4A l4.length l4C), (6, .slice l3A l3.length l3C), (7, .bool c2)] a ∧ Sat w0 none_ [hown 4 l3A l3C l3, hown 55 l4A l4C l4] w) kk ⟨(List.replicate ways.length false), A2, ways.length, [x1], A1, 1, true, h, (((((hf.nil.cons (hf.get 7 _ rfl)).cons (hf.get 6 _ rfl)).cons (hf.get 5 _ rfl)).cons (hf.get 1 _ rfl)).cons (hf.get 0 _ rfl)), hs⟩ (fun a w ⟨_, _, _, _, _, _, _, h, _, _⟩ => h) ?_
 clear h hf hs
 rintro kk a w ⟨l3, l3A, l3C, l4, l4A, l4C, c2, h, hf, hs⟩
 obtain ⟨again1, hagain1⟩ : ∃ X : List Bool → List Cell → Bool → Prop, X = (fun l3 l4 c2 => iterF (fun again (s : List Bool × List Cell × Bool) => M_ref7_hangs_L1 pins ways Q (fun l3 l4 c2 => again (l3, l4, c2)) s.1 s.2.1 s.2.2) kk (l3, l4, c2)) := ⟨_, rfl⟩
 replace h : M_ref7_hangs_L1 pins ways Q again1 l3 l4 c2 := by rw [hagain1]; exact h
 unfold M_ref7_hangs_L1 at h
 refine wp_seq (wp_seq (R.list (S.p hf hs (.bool c2) rfl rfl fun a hf => R.nil (X.then_ ?_))))
 refine C.cond hf (b := c2) rfl (fun hc => ?_) (fun hc => ?_)
 ·replace h := h.1 hc
  refine wp_skip (X.then_ (wp_block (wp_seq (R.list (S.p hf hs (.bool false) rfl rfl fun a hf => R.nil (X.then_ (wp_seq (R.list (S.p hf hs (.slice waysA ways.length waysC) rfl rfl fun a hf => S.v hf hs (iv (ways.length : Int)) rfl (V.len rfl rfl Tryz.runUnderlying45) fun a hf => S.p hf hs (iv 0) rfl rfl fun a hf => R.nil (X.then_ (wp_block ?_)))))))))))
  have hlenk2 := hv_ways.len64
  refine C.range (fun (ll : List (List Cell)) a w => ∃ (k2 : Nat) (l7 : List Bool) (l7A : Option Addr) (l7C : Nat) (l8 : List Cell) (l8A : Option Addr) (l8C : Nat) (c4 : Bool), ways.drop k2 = ll ∧ k2 + ll.length = ways.length ∧ forIn' (fun k x (s : List Bool × List Cell × Bool) next => M_ref7_hangs_L2 k x s.1 s.2.1 s.2.2 (fun l7 l8 c4 => next (l7, l8, c4))) (fun (s : List Bool × List Cell × Bool) => (fun (l7 : List Bool) (l8 : List Cell) (c4 : Bool) => again1 l7 l8 c4) s.1 s.2.1 s.2.2) ll k2 (l7, l8, c4) ∧ FrOk 74 [(24, iv (k2 : Int)), (0, .slice pinsA pins.length pinsC), (1, .slice waysA ways.length waysC), (5, .slice l8A l8.length l8C), (6, .slice l7A l7.length l7C), (7, .bool c4), (22, .slice waysA ways.length waysC), (23, iv (ways.length : Int))] a ∧ Sat w0 none_ [hown 4 l7A l7C l7, hown 55 l8A l8C l8] w) ways ⟨0, l3, l3A, l3C, l4, l4A, l4C, false, rfl, Nat.zero_add _, h, ((((((((hf.nil.cons (hf.get 23 _ rfl)).cons (hf.get 22 _ rfl)).cons (hf.get 7 _ rfl)).cons (hf.get 6 _ rfl)).cons (hf.get 5 _ rfl)).cons (hf.get 1 _ rfl)).cons (hf.get 0 _ rfl)).cons (hf.get 24 _ rfl)), hs⟩ ?_
  clear h hf hs
  rintro llk2 a w ⟨k2, l7, l7A, l7C, l8, l8A, l8C, c4, hlk2, hkk2, h, hf, hs⟩
  cases llk2 with
  | nil =>
   have hc := range_done hkk2
   replace h : (fun (l7 : List Bool) (l8 : List Cell) (c4 : Bool) => again1 l7 l8 c4) l7 l8 c4 := h
   refine wp_seq (R.list (S.v hf hs (.bool false) rfl (V.cmp false rfl rfl rfl rfl hc) fun a hf => R.nil (X.then_ (wp_seq (C.no hf rfl (wp_exit (X.then_exit (X.then_exit (X.blk_exit (X.blk (X.then_ ?_)))))))))))
   exact ⟨l7, l7A, l7C, l8, l8A, l8C, c4, (by rw [hagain1] at h; exact h), (((((hf.nil.cons (hf.get 7 _ rfl)).cons (hf.get 6 _ rfl)).cons (hf.get 5 _ rfl)).cons (hf.get 1 _ rfl)).cons (hf.get 0 _ rfl)), hs⟩
  | cons xk2 llk2 =>
   have hltk2 := range_lt hkk2; have hc := range_go hkk2; have hxk2 := range_get hlk2
   obtain ⟨next2, hnext2⟩ : ∃ X : List Bool → List Cell → Bool → Prop, X = (fun l7 l8 c4 => forIn' (fun k x (s : List Bool × List Cell × Bool) next => M_ref7_hangs_L2 k x s.1 s.2.1 s.2.2 (fun l7 l8 c4 => next (l7, l8, c4))) (fun (s : List Bool × List Cell × Bool) => (fun (l7 : List Bool) (l8 : List Cell) (c4 : Bool) => again1 l7 l8 c4) s.1 s.2.1 s.2.2) llk2 (k2 + 1) (l7, l8, c4)) := ⟨_, rfl⟩
   replace h : M_ref7_hangs_L2 k2 xk2 l7 l8 c4 next2 := by rw [hnext2]; exact h
   unfold M_ref7_hangs_L2 at h
   refine wp_seq (R.list (S.v hf hs (.bool true) rfl (V.cmp true rfl rfl rfl rfl hc) fun a hf => R.nil (X.then_ (wp_seq (C.yes hf rfl (wp_skip (X.then_ (wp_seq (wp_block (wp_seq (R.list (S.p hf hs (iv (k2 : Int)) rfl rfl fun a hf => ?_))))))))))))
   obtain ⟨cs1, he1, hr1⟩ := hv_ways.at_ _ _ hxk2
   obtain ⟨u1A, u1C, rfl, hvu1⟩ := hr1
   refine S.v hf hs (elemPtr waysA (k2 * 1)) rfl (V.index rfl rfl rfl Tryz.runUnderlying45 Tryz.sizeOf22 (hv_ways.some_ (lt_of_get hxk2)) (Int.natCast_nonneg _) (lt_of_get hxk2) rfl) fun a hf => S.v hf hs (.slice u1A xk2.length u1C) rfl (V.loadEl (off := 0) (Ag.args _ _ _) he1 rfl rfl rfl Tryz.isAgg22 Tryz.sizeOf22 rfl rfl) fun a hf => S.p hf hs (iv (k2 : Int)) rfl rfl fun a hf => S.p hf hs (.slice u1A xk2.length u1C) rfl rfl fun a hf => R.nil (X.then_ (wp_seq (wp_seq (R.list (S.p hf hs (.slice l7A l7.length l7C) rfl rfl fun a hf => S.p hf hs (iv (k2 : Int)) rfl rfl fun a hf => ?_)))))
   obtain ⟨h0x2, x2, hx2, h⟩ := h
   refine S.v hf hs (elemPtr l7A (k2 * 1)) rfl (V.index rfl rfl rfl Tryz.runUnderlying49 Tryz.sizeOf4 (hs.ownSome 0 rfl (lt_of_get hx2)) (Int.natCast_nonneg _) (lt_of_get hx2) rfl) fun a hf => S.v hf hs (.bool x2) rfl (V.loadOwn (off := 0) 0 rfl hx2 rfl rfl rfl Tryz.isAgg4 Tryz.sizeOf4 rfl rfl) fun a hf => R.nil (X.then_ ?_)
   refine C.cond hf (b := x2) rfl (fun hc => ?_) (fun hc => ?_)
   ·replace h := h.1 hc
    refine wp_exit (X.then_exit (X.blk_exit (X.then_ (R.list (S.v hf hs (iv ((k2 + 1 : Nat) : Int)) rfl (V.incr rfl rfl rfl hltk2 hlenk2) fun a hf => S.p hf hs (iv ((k2 + 1 : Nat) : Int)) rfl rfl fun a hf => R.nil (X.then_ ?_))))))
    exact ⟨xk2, llk2, rfl, k2 + 1, l7, l7A, l7C, l8, l8A, l8C, c4, range_drop hlk2, range_len hkk2, (by rw [hnext2] at h; exact h), ((((((((hf.nil.cons (hf.get 23 _ rfl)).cons (hf.get 22 _ rfl)).cons (hf.get 7 _ rfl)).cons (hf.get 6 _ rfl)).cons (hf.get 5 _ rfl)).cons (hf.get 1 _ rfl)).cons (hf.get 0 _ rfl)).cons (hf.get 24 _ rfl)), hs⟩
   ·replace h := h.2 hc
    refine wp_skip (X.then_ (wp_seq (wp_seq (R.list (S.p hf hs (.slice u1A xk2.length u1C) rfl rfl fun a hf => S.v hf hs (iv (xk2.length : Int)) rfl (V.len rfl rfl Tryz.runUnderlying22) fun a hf => S.p hf hs (iv 0) rfl rfl fun a hf => R.nil (X.then_ (wp_block ?_)))))))
    have hlenk3 := hvu1.len64
    refine C.range (fun (ll : List Cell) a w => ∃ (k3 : Nat) (l10 : List Bool) (l10A : Option Addr) (l10C : Nat), xk2.drop k3 = ll ∧ k3 + ll.length = xk2.length ∧ forIn' (fun k x (s : List Bool) next => M_ref7_hangs_L3 k2 l8 k x s (fun l10 => next l10)) (fun (s : List Bool) => (fun (l10 : List Bool) => idx l10 (k2 : Int) fun x3 => cnd x3 (must (room (l8 ++ xk2).length 24) (next2 l10 (l8 ++ xk2) true)) (next2 l10 l8 c4)) s) ll k3 l10 ∧ FrOk 74 [(35, iv (k3 : Int)), (0, .slice pinsA pins.length pinsC), (1, .slice waysA ways.length waysC), (5, .slice l8A l8.length l8C), (6, .slice l10A l10.length l10C), (7, .bool c4), (8, iv (k2 : Int)), (9, .slice u1A xk2.length u1C), (22, .slice waysA ways.length waysC), (23, iv (ways.length : Int)), (24, iv (k2 : Int)), (33, .slice u1A xk2.length u1C), (34, iv (xk2.length : Int))] a ∧ Sat w0 none_ [hown 4 l10A l10C l10, hown 55 l8A l8C l8] w) xk2 ⟨0, l7, l7A, l7C, rfl, Nat.zero_add _, h, (((((((((((((hf.nil.cons (hf.get 34 _ rfl)).cons (hf.get 33 _ rfl)).cons (hf.get 24 _ rfl)).cons (hf.get 23 _ rfl)).cons (hf.get 22 _ rfl)).cons (hf.get 9 _ rfl)).cons (hf.get 8 _ rfl)).cons (hf.get 7 _ rfl)).cons (hf.get 6 _ rfl)).cons (hf.get 5 _ rfl)).cons (hf.get 1 _ rfl)).cons (hf.get 0 _ rfl)).cons (hf.get 35 _ rfl)), hs⟩ ?_
    clear h hf hs
    rintro llk3 a w ⟨k3, l10, l10A, l10C, hlk3, hkk3, h, hf, hs⟩
    cases llk3 with
    | nil =>
     have hc := range_done hkk3
     replace h : (fun (l10 : List Bool) => idx l10 (k2 : Int) fun x3 => cnd x3 (must (room (l8 ++ xk2).length 24) (next2 l10 (l8 ++ xk2) true)) (next2 l10 l8 c4)) l10 := h
     refine wp_seq (R.list (S.v hf hs (.bool false) rfl (V.cmp false rfl rfl rfl rfl hc) fun a hf => R.nil (X.then_ (wp_seq (C.no hf rfl (wp_exit (X.then_exit (X.then_exit (X.blk_exit (X.then_ (wp_seq (R.list (S.p hf hs (.slice l10A l10.length l10C) rfl rfl fun a hf => S.p hf hs (iv (k2 : Int)) rfl rfl fun a hf => ?_)))))))))))))
     obtain ⟨h0x3, x3, hx3, h⟩ := h
     refine S.v hf hs (elemPtr l10A (k2 * 1)) rfl (V.index rfl rfl rfl Tryz.runUnderlying49 Tryz.sizeOf4 (hs.ownSome 0 rfl (lt_of_get hx3)) (Int.natCast_nonneg _) (lt_of_get hx3) rfl) fun a hf => S.v hf hs (.bool x3) rfl (V.loadOwn (off := 0) 0 rfl hx3 rfl rfl rfl Tryz.isAgg4 Tryz.sizeOf4 rfl rfl) fun a hf => R.nil (X.then_ ?_)
     refine C.cond hf (b := x3) rfl (fun hc => ?_) (fun hc => ?_)
     ·replace h := h.1 hc
      refine R.list (S.p hf hs (.slice l8A l8.length l8C) rfl rfl fun a hf => S.p hf hs (.slice u1A xk2.length u1C) rfl rfl fun a hf => ?_)
      obtain ⟨hroom, h⟩ := h
      refine S.appendAny 1 hf hs rfl rfl rfl rfl rfl rfl rfl Tryz.underlying22 info55 rfl hroom ((Ag.args _ _ _).view hvu1 hs) (fun A3 C1 a w hf hs => S.p hf hs (.slice A3 (l8 ++ xk2).length C1) rfl rfl fun a hf => S.p hf hs (.bool true) rfl rfl fun a hf => R.nil (X.blk (X.then_ (R.list (S.v hf hs (iv ((k2 + 1 : Nat) : Int)) rfl (V.incr rfl rfl rfl hltk2 hlenk2) fun a hf => S.p hf hs (iv ((k2 + 1 : Nat) : Int)) rfl rfl fun a hf => R.nil (X.then_ ?_))))))
      exact ⟨xk2, llk2, rfl, k2 + 1, l10, l10A, l10C, (l8 ++ xk2), A3, C1, true, range_drop hlk2, range_len hkk2, (by rw [hnext2] at h; exact h), ((((((((hf.nil.cons (hf.get 23 _ rfl)).cons (hf.get 22 _ rfl)).cons (hf.get 7 _ rfl)).cons (hf.get 6 _ rfl)).cons (hf.get 5 _ rfl)).cons (hf.get 1 _ rfl)).cons (hf.get 0 _ rfl)).cons (hf.get 24 _ rfl)), hs⟩
     ·replace h := h.2 hc
      refine wp_skip (X.blk (X.then_ (R.list (S.v hf hs (iv ((k2 + 1 : Nat) : Int)) rfl (V.incr rfl rfl rfl hltk2 hlenk2) fun a hf => S.p hf hs (iv ((k2 + 1 : Nat) : Int)) rfl rfl fun a hf => R.nil (X.then_ ?_)))))
      exact ⟨xk2, llk2, rfl, k2 + 1, l10, l10A, l10C, l8, l8A, l8C, c4, range_drop hlk2, range_len hkk2, (by rw [hnext2] at h; exact h), ((((((((hf.nil.cons (hf.get 23 _ rfl)).cons (hf.get 22 _ rfl)).cons (hf.get 7 _ rfl)).cons (hf.get 6 _ rfl)).cons (hf.get 5 _ rfl)).cons (hf.get 1 _ rfl)).cons (hf.get 0 _ rfl)).cons (hf.get 24 _ rfl)), hs⟩
    | cons xk3 llk3 =>
     have hltk3 := range_lt hkk3; have hc := range_go hkk3; have hxk3 := range_get hlk3
     obtain ⟨next3, hnext3⟩ : ∃ X : List Bool → Prop, X = (fun l10 => forIn' (fun k x (s : List Bool) next => M_ref7_hangs_L3 k2 l8 k x s (fun l10 => next l10)) (fun (s : List Bool) => (fun (l10 : List Bool) => idx l10 (k2 : Int) fun x3 => cnd x3 (must (room (l8 ++ xk2).length 24) (next2 l10 (l8 ++ xk2) true)) (next2 l10 l8 c4)) s) llk3 (k3 + 1) l10) := ⟨_, rfl⟩
     replace h : M_ref7_hangs_L3 k2 l8 k3 xk3 l10 next3 := by rw [hnext3]; exact h
     unfold M_ref7_hangs_L3 at h
     refine wp_seq (R.list (S.v hf hs (.bool true) rfl (V.cmp true rfl rfl rfl rfl hc) fun a hf => R.nil (X.then_ (wp_seq (C.yes hf rfl (wp_skip (X.then_ (wp_seq (wp_block (wp_seq (R.list (S.v hf hs (elemPtr u1A (k3 * 3)) rfl (V.index rfl rfl rfl Tryz.runUnderlying22 Tryz.sizeOf55 (hvu1.some_ (lt_of_get hxk3)) (Int.natCast_nonneg _) (lt_of_get hxk3) rfl) fun a hf => S.v hf hs (.agg #[iv xk3.X, iv xk3.Y, iv xk3.Layer]) rfl (V.loadEl (off := 0) (Ag.args _ _ _) (hvu1.flat hxk3) rfl rfl rfl Tryz.isAgg55 Tryz.sizeOf55 rfl rfl) fun a hf => S.alloc hf hs rfl rfl rfl [iv 0, iv 0, iv 0] rfl Tryz.zeroValue55 rfl (fun g1 a w hf hs => ?_)))))))))))))
     refine S.storeBox 0 hf hs rfl rfl [iv xk3.X, iv xk3.Y, iv xk3.Layer] [iv xk3.X, iv xk3.Y, iv xk3.Layer] rfl rfl rfl rfl rfl Tryz.sizeOf55 rfl rfl rfl rfl (fun a w hf hs => R.nil (X.then_ (R.list (S.p hf hs (.slice l10A l10.length l10C) rfl rfl fun a hf => S.p hf hs (iv (k2 : Int)) rfl rfl fun a hf => S.p hf hs (.slice l10A l10.length l10C) rfl rfl fun a hf => S.p hf hs (iv (k2 : Int)) rfl rfl fun a hf => ?_))))
     obtain ⟨h0x4, x4, hx4, h⟩ := h
     refine S.v hf hs (elemPtr l10A (k2 * 1)) rfl (V.index rfl rfl rfl Tryz.runUnderlying49 Tryz.sizeOf4 (hs.ownSome 1 rfl (lt_of_get hx4)) (Int.natCast_nonneg _) (lt_of_get hx4) rfl) fun a hf => S.v hf hs (.bool x4) rfl (V.loadOwn (off := 0) 1 rfl hx4 rfl rfl rfl Tryz.isAgg4 Tryz.sizeOf4 rfl rfl) fun a hf => ?_
     refine S.split hf hs (b := x4) rfl rfl rfl (V.pure rfl) (fun hc a hf => ?_) (fun hc a hf => ?_)
     ·replace h := h.1 hc
      refine S.k hf rfl fun a hf => S.k hf rfl fun a hf => S.k hf rfl fun a hf => S.p hf hs (.bool true) rfl rfl fun a hf => S.v hf hs (elemPtr l10A (k2 * 1)) rfl (V.index rfl rfl rfl Tryz.runUnderlying49 Tryz.sizeOf4 (hs.ownSome 1 rfl (lt_of_get hx4)) (Int.natCast_nonneg _) (lt_of_get hx4) rfl) fun a hf => S.storeOwn (off := 0) 1 hf hs rfl rfl true [.bool true] rfl hx4 rfl rfl rfl rfl rfl Tryz.sizeOf4 rfl (by decide) rfl rfl (fun a w hf hs => ?_)
      replace hf := hf.tell 6 (v := .slice l10A (l10.set k2 true).length l10C) ((hf.get 6 (.slice l10A l10.length l10C) rfl).trans (congrArg (fun n => Value.slice l10A n l10C) List.length_set.symm))
      replace hf := hf.tell 39 (v := .slice l10A (l10.set k2 true).length l10C) ((hf.get 39 (.slice l10A l10.length l10C) rfl).trans (congrArg (fun n => Value.slice l10A n l10C) List.length_set.symm))
      replace hf := hf.tell 41 (v := .slice l10A (l10.set k2 true).length l10C) ((hf.get 41 (.slice l10A l10.length l10C) rfl).trans (congrArg (fun n => Value.slice l10A n l10C) List.length_set.symm))
      refine R.nil (X.blk (X.then_ (R.list (S.v hf hs (iv ((k3 + 1 : Nat) : Int)) rfl (V.incr rfl rfl rfl hltk3 hlenk3) fun a hf => S.p hf hs (iv ((k3 + 1 : Nat) : Int)) rfl rfl fun a hf => R.nil (X.then_ ?_)))))
      exact ⟨xk3, llk3, rfl, k3 + 1, (l10.set k2 true), l10A, l10C, range_drop hlk3, range_len hkk3, (by rw [hnext3] at h; exact h), (((((((((((((hf.nil.cons (hf.get 34 _ rfl)).cons (hf.get 33 _ rfl)).cons (hf.get 24 _ rfl)).cons (hf.get 23 _ rfl)).cons (hf.get 22 _ rfl)).cons (hf.get 9 _ rfl)).cons (hf.get 8 _ rfl)).cons (hf.get 7 _ rfl)).cons (hf.get 6 _ rfl)).cons (hf.get 5 _ rfl)).cons (hf.get 1 _ rfl)).cons (hf.get 0 _ rfl)).cons (hf.get 35 _ rfl)), hs.drop⟩
     ·replace h := h.2 hc
      refine S.p hf hs (.slice l8A l8.length l8C) rfl rfl fun a hf => S.v hf hs (.agg #[iv xk3.X, iv xk3.Y, iv xk3.Layer]) rfl (V.loadBox 0 rfl rfl rfl Tryz.isAgg55 Tryz.sizeOf55 rfl rfl) fun a hf => S.call hf rfl rfl rfl (call_fn (vs := [.slice l8A l8.length l8C, .agg #[iv xk3.X, iv xk3.Y, iv xk3.Layer]]) rfl rfl rfl Tryz.call56) (R_contains_cell l8 xk3 _ l8A l8C (hs.ownView 2 rfl) _ h) (fun v a w' hf hr => ?_)
      obtain ⟨y1, rfl, h2, hs2⟩ := hr
      replace h := h2; replace hs := hs.call hs2; clear h2 hs2
      refine S.p hf hs (.bool y1) rfl rfl fun a hf => S.v hf hs (elemPtr l10A (k2 * 1)) rfl (V.index rfl rfl rfl Tryz.runUnderlying49 Tryz.sizeOf4 (hs.ownSome 1 rfl (lt_of_get hx4)) (Int.natCast_nonneg _) (lt_of_get hx4) rfl) fun a hf => S.storeOwn (off := 0) 1 hf hs rfl rfl y1 [.bool y1] rfl hx4 rfl rfl rfl rfl rfl Tryz.sizeOf4 rfl (by decide) rfl rfl (fun a w hf hs => ?_)
      replace hf := hf.tell 6 (v := .slice l10A (l10.set k2 y1).length l10C) ((hf.get 6 (.slice l10A l10.length l10C) rfl).trans (congrArg (fun n => Value.slice l10A n l10C) List.length_set.symm))
      replace hf := hf.tell 39 (v := .slice l10A (l10.set k2 y1).length l10C) ((hf.get 39 (.slice l10A l10.length l10C) rfl).trans (congrArg (fun n => Value.slice l10A n l10C) List.length_set.symm))
      replace hf := hf.tell 41 (v := .slice l10A (l10.set k2 y1).length l10C) ((hf.get 41 (.slice l10A l10.length l10C) rfl).trans (congrArg (fun n => Value.slice l10A n l10C) List.length_set.symm))
      refine R.nil (X.blk (X.then_ (R.list (S.v hf hs (iv ((k3 + 1 : Nat) : Int)) rfl (V.incr rfl rfl rfl hltk3 hlenk3) fun a hf => S.p hf hs (iv ((k3 + 1 : Nat) : Int)) rfl rfl fun a hf => R.nil (X.then_ ?_)))))
      exact ⟨xk3, llk3, rfl, k3 + 1, (l10.set k2 y1), l10A, l10C, range_drop hlk3, range_len hkk3, (by rw [hnext3] at h; exact h), (((((((((((((hf.nil.cons (hf.get 34 _ rfl)).cons (hf.get 33 _ rfl)).cons (hf.get 24 _ rfl)).cons (hf.get 23 _ rfl)).cons (hf.get 22 _ rfl)).cons (hf.get 9 _ rfl)).cons (hf.get 8 _ rfl)).cons (hf.get 7 _ rfl)).cons (hf.get 6 _ rfl)).cons (hf.get 5 _ rfl)).cons (hf.get 1 _ rfl)).cons (hf.get 0 _ rfl)).cons (hf.get 35 _ rfl)), hs.drop⟩
 ·replace h := h.2 hc
  refine wp_exit (X.then_exit (X.then_exit (X.blk_exit (X.then_ (wp_seq (wp_seq (R.list (S.p hf hs (.slice pinsA pins.length pinsC) rfl rfl fun a hf => S.v hf hs (iv (pins.length : Int)) rfl (V.len rfl rfl Tryz.runUnderlying22) fun a hf => S.p hf hs (iv 0) rfl rfl fun a hf => R.nil (X.then_ (wp_block ?_))))))))))
  have hlenk4 := hv_pins.len64
  refine C.range (fun (ll : List Cell) a w => ∃ (k4 : Nat) , pins.drop k4 = ll ∧ k4 + ll.length = pins.length ∧ forIn' (fun k x (s : Unit) next => M_ref7_hangs_L4 Q l4 k x (next ())) (fun (s : Unit) => M_contains_bool l3 false fun y2 => Q (!y2)) ll k4 () ∧ FrOk 74 [(62, iv (k4 : Int)), (5, .slice l4A l4.length l4C), (6, .slice l3A l3.length l3C), (60, .slice pinsA pins.length pinsC), (61, iv (pins.length : Int))] a ∧ Sat w0 none_ [hown 4 l3A l3C l3, hown 55 l4A l4C l4] w) pins ⟨0, rfl, Nat.zero_add _, h, (((((hf.nil.cons (hf.get 61 _ rfl)).cons (hf.get 60 _ rfl)).cons (hf.get 6 _ rfl)).cons (hf.get 5 _ rfl)).cons (hf.get 62 _ rfl)), hs⟩ ?_
  clear h hf hs
  rintro llk4 a w ⟨k4, hlk4, hkk4, h, hf, hs⟩
  cases llk4 with
  | nil =>
   have hc := range_done hkk4
   replace h : M_contains_bool l3 false fun y2 => Q (!y2) := h
   refine wp_seq (R.list (S.v hf hs (.bool false) rfl (V.cmp false rfl rfl rfl rfl hc) fun a hf => R.nil (X.then_ (wp_seq (C.no hf rfl (wp_exit (X.then_exit (X.then_exit (X.blk_exit (X.then_ (wp_seq (R.list (S.p hf hs (.slice l3A l3.length l3C) rfl rfl fun a hf => S.call hf rfl rfl rfl (call_fn (vs := [.slice l3A l3.length l3C, .bool false]) rfl rfl rfl Tryz.call74) (R_contains_bool l3 false _ l3A l3C (hs.ownView 0 rfl) _ h) (fun v a w' hf hr => ?_))))))))))))))
   obtain ⟨y2, rfl, h2, hs2⟩ := hr
   replace h := h2; replace hs := hs.call hs2; clear h2 hs2
   refine S.p hf hs (.bool (!y2)) rfl rfl fun a hf => S.p hf hs (.bool (!y2)) rfl rfl fun a hf => R.nil (X.then_ (wp_ret ?_))
   exact L.ret hf (run_results1 Tryz.results31 (ResIs.tmp hf rfl)) ⟨(!y2), rfl, h, hs.nil⟩
  | cons xk4 llk4 =>
   have hltk4 := range_lt hkk4; have hc := range_go hkk4; have hxk4 := range_get hlk4
   obtain ⟨next4, hnext4⟩ : ∃ X : Prop, X = (forIn' (fun k x (s : Unit) next => M_ref7_hangs_L4 Q l4 k x (next ())) (fun (s : Unit) => M_contains_bool l3 false fun y2 => Q (!y2)) llk4 (k4 + 1) ()) := ⟨_, rfl⟩
   replace h : M_ref7_hangs_L4 Q l4 k4 xk4  next4 := by rw [hnext4]; exact h
   unfold M_ref7_hangs_L4 at h
   refine wp_seq (R.list (S.v hf hs (.bool true) rfl (V.cmp true rfl rfl rfl rfl hc) fun a hf => R.nil (X.then_ (wp_seq (C.yes hf rfl (wp_skip (X.then_ (wp_seq (wp_block (wp_seq (R.list (S.v hf hs (elemPtr pinsA (k4 * 3)) rfl (V.index rfl rfl rfl Tryz.runUnderlying22 Tryz.sizeOf55 (hv_pins.some_ (lt_of_get hxk4)) (Int.natCast_nonneg _) (lt_of_get hxk4) rfl) fun a hf => S.v hf hs (.agg #[iv xk4.X, iv xk4.Y, iv xk4.Layer]) rfl (V.loadEl (off := 0) (Ag.args _ _ _) (hv_pins.flat hxk4) rfl rfl rfl Tryz.isAgg55 Tryz.sizeOf55 rfl rfl) fun a hf => S.alloc hf hs rfl rfl rfl [iv 0, iv 0, iv 0] rfl Tryz.zeroValue55 rfl (fun g2 a w hf hs => ?_)))))))))))))
   refine S.storeBox 0 hf hs rfl rfl [iv xk4.X, iv xk4.Y, iv xk4.Layer] [iv xk4.X, iv xk4.Y, iv xk4.Layer] rfl rfl rfl rfl rfl Tryz.sizeOf55 rfl rfl rfl rfl (fun a w hf hs => R.nil (X.then_ (wp_seq (R.list (S.p hf hs (.slice l4A l4.length l4C) rfl rfl fun a hf => S.v hf hs (.agg #[iv xk4.X, iv xk4.Y, iv xk4.Layer]) rfl (V.loadBox 0 rfl rfl rfl Tryz.isAgg55 Tryz.sizeOf55 rfl rfl) fun a hf => S.call hf rfl rfl rfl (call_fn (vs := [.slice l4A l4.length l4C, .agg #[iv xk4.X, iv xk4.Y, iv xk4.Layer]]) rfl rfl rfl Tryz.call56) (R_contains_cell l4 xk4 _ l4A l4C (hs.ownView 2 rfl) _ h) (fun v a w' hf hr => ?_))))))
   obtain ⟨y3, rfl, h2, hs2⟩ := hr
   replace h := h2; replace hs := hs.call hs2; clear h2 hs2
   refine S.p hf hs (.bool (!y3)) rfl rfl fun a hf => R.nil (X.then_ ?_)
   refine C.cond hf (b := !y3) rfl (fun hc => ?_) (fun hc => ?_)
   ·replace h := h.1 hc
    refine wp_seq (R.list (S.p hf hs (.bool false) rfl rfl fun a hf => R.nil (X.then_ (wp_ret (X.blk_ret (X.then_ret (X.then_ret (X.blk_ret (X.then_ret ?_)))))))))
    exact L.ret hf (run_results1 Tryz.results31 (ResIs.tmp hf rfl)) ⟨false, rfl, h, hs.nil⟩
   ·replace h := h.2 hc
    refine wp_skip (X.blk (X.then_ (R.list (S.v hf hs (iv ((k4 + 1 : Nat) : Int)) rfl (V.incr rfl rfl rfl hltk4 hlenk4) fun a hf => S.p hf hs (iv ((k4 + 1 : Nat) : Int)) rfl rfl fun a hf => R.nil (X.then_ ?_)))))
    exact ⟨xk4, llk4, rfl, k4 + 1, range_drop hlk4, range_len hkk4, (by rw [hnext4] at h; exact h), (((((hf.nil.cons (hf.get 61 _ rfl)).cons (hf.get 60 _ rfl)).cons (hf.get 6 _ rfl)).cons (hf.get 5 _ rfl)).cons (hf.get 62 _ rfl)), hs.drop⟩
def M_ref7_taskOf_L1 (net : Str) (Q : Int → Prop) (k1 : Nat) (xk1 : Task)  (next1 : Prop) : Prop :=
  cnd (xk1.Net == net) (Q (k1 : Int)) (next1)
def M_ref7_taskOf (t : (List Task)) (net : Str) (Q : Int → Prop) : Prop :=
  forIn' (fun k x (s : Unit) next => M_ref7_taskOf_L1 net Q k x (next ())) (fun (s : Unit) => Q (-1)) t 0 ()
theorem R_ref7_taskOf (t : (List Task)) (net : Str) (w0 : World) (tA : Option Addr) (tC : Nat) (hv_t : View w0 (old w0 none_) tA tC t) (Q : Int → Prop) (h : M_ref7_taskOf t net Q) :
  Ret Tryz.prog 28 #[.slice tA t.length tC, .string (ba net)] w0 fun v w' => ∃ (r0 : Int), v = iv r0 ∧ Q r0 ∧ Sat w0 none_ [] w' := by
 refine fn_enter Tryz.func28 rfl Tryz.ntmps28 rfl (fs := [(0, .slice tA t.length tC), (1, .string (ba net))]) rfl (fun a hf => ?_)
 have hs := Sat.start w0 none_
 unfold M_ref7_taskOf at h
 refine wp_seq (R.list (S.p hf hs (iv 0) rfl rfl fun a hf => R.nil (X.then_ (wp_seq (wp_seq (R.list (S.p hf hs (.slice tA t.length tC) rfl rfl fun a hf => S.v hf hs (iv (t.length : Int)) rfl (V.len rfl rfl Tryz.runUnderlying27) fun a hf => S.p hf hs (iv 0) rfl rfl fun a hf => R.nil (X.then_ (wp_block ?_)))))))))
 have hlenk1 := hv_t.len64
 refine C.range (fun (ll : List Task) a w => ∃ (k1 : Nat) , t.drop k1 = ll ∧ k1 + ll.length = t.length ∧ forIn' (fun k x (s : Unit) next => M_ref7_taskOf_L1 net Q k x (next ())) (fun (s : Unit) => Q (-1)) ll k1 () ∧ FrOk 20 [(9, iv (k1 : Int)), (1, .string (ba net)), (7, .slice tA t.length tC), (8, iv (t.length : Int))] a ∧ Sat w0 none_ [] w) t ⟨0, rfl, Nat.zero_add _, h, ((((hf.nil.cons (hf.get 8 _ rfl)).cons (hf.get 7 _ rfl)).cons (hf.get 1 _ rfl)).cons (hf.get 9 _ rfl)), hs⟩ ?_
 clear h hf hs
 rintro llk1 a w ⟨k1, hlk1, hkk1, h, hf, hs⟩
 cases llk1 with
 | nil =>
  have hc := range_done hkk1
  replace h : Q (-1) := h
  refine wp_seq (R.list (S.v hf hs (.bool false) rfl (V.cmp false rfl rfl rfl rfl hc) fun a hf => R.nil (X.then_ (wp_seq (C.no hf rfl (wp_exit (X.then_exit (X.then_exit (X.blk_exit (X.then_ (wp_seq (R.list (S.p hf hs (iv (-1)) rfl rfl fun a hf => R.nil (X.then_ (wp_ret ?_)))))))))))))))
  exact L.ret hf (run_results1 Tryz.results28 (ResIs.tmp hf rfl)) ⟨(-1), rfl, h, hs.nil⟩
 | cons xk1 llk1 =>
  have hltk1 := range_lt hkk1; have hc := range_go hkk1; have hxk1 := range_get hlk1
  obtain ⟨next1, hnext1⟩ : ∃ X : Prop, X = (forIn' (fun k x (s : Unit) next => M_ref7_taskOf_L1 net Q k x (next ())) (fun (s : Unit) => Q (-1)) llk1 (k1 + 1) ()) := ⟨_, rfl⟩
  replace h : M_ref7_taskOf_L1 net Q k1 xk1  next1 := by rw [hnext1]; exact h
  unfold M_ref7_taskOf_L1 at h
  refine wp_seq (R.list (S.v hf hs (.bool true) rfl (V.cmp true rfl rfl rfl rfl hc) fun a hf => R.nil (X.then_ (wp_seq (C.yes hf rfl (wp_skip (X.then_ (wp_seq (wp_block (wp_seq (R.list (S.p hf hs (iv (k1 : Int)) rfl rfl fun a hf => ?_))))))))))))
  obtain ⟨cs1, he1, hr1⟩ := hv_t.at_ _ _ hxk1
  obtain ⟨u1A, u1C, rfl, hvu1⟩ := hr1
  refine S.v hf hs (elemPtr tA (k1 * 2)) rfl (V.index rfl rfl rfl Tryz.runUnderlying27 Tryz.sizeOf53 (hv_t.some_ (lt_of_get hxk1)) (Int.natCast_nonneg _) (lt_of_get hxk1) rfl) fun a hf => S.v hf hs (.agg #[.string (ba xk1.Net), .slice u1A xk1.Pins.length u1C]) rfl (V.loadEl (off := 0) (Ag.args _ _ _) he1 rfl rfl rfl Tryz.isAgg53 Tryz.sizeOf53 rfl rfl) fun a hf => S.alloc hf hs rfl rfl rfl [.string (ba []), .slice none 0 0] rfl Tryz.zeroValue53 rfl (fun g1 a w hf hs => S.p hf hs (iv (k1 : Int)) rfl rfl fun a hf => S.storeBox 0 hf hs rfl rfl [.string (ba xk1.Net), .slice u1A xk1.Pins.length u1C] [.string (ba xk1.Net), .slice u1A xk1.Pins.length u1C] rfl rfl rfl rfl rfl Tryz.sizeOf53 rfl rfl rfl rfl (fun a w hf hs => R.nil (X.then_ (wp_seq (R.list (S.v hf hs ((pn g1 0)) rfl (V.fieldBox rfl rfl Tryz.runUnderlying53 rfl Tryz.sizeOf9 rfl rfl) fun a hf => S.v hf hs (.string (ba xk1.Net)) rfl (V.loadBox 0 rfl rfl rfl Tryz.isAgg9 Tryz.sizeOf9 rfl rfl) fun a hf => ?_))))))
  refine S.p hf hs (.string (ba net)) rfl rfl fun a hf => S.v hf hs (.bool (xk1.Net == net)) rfl (V.strCmp (xk1.Net == net) rfl rfl rfl rfl) fun a hf => R.nil (X.then_ ?_)
  refine C.cond hf (b := xk1.Net == net) rfl (fun hc => ?_) (fun hc => ?_)
  ·replace h := h.1 hc
   refine wp_seq (R.list (S.p hf hs (iv (k1 : Int)) rfl rfl fun a hf => S.p hf hs (iv (k1 : Int)) rfl rfl fun a hf => R.nil (X.then_ (wp_ret (X.blk_ret (X.then_ret (X.then_ret (X.blk_ret (X.then_ret ?_)))))))))
   exact L.ret hf (run_results1 Tryz.results28 (ResIs.tmp hf rfl)) ⟨(k1 : Int), rfl, h, hs.nil⟩
  ·replace h := h.2 hc
   refine wp_skip (X.blk (X.then_ (R.list (S.v hf hs (iv ((k1 + 1 : Nat) : Int)) rfl (V.incr rfl rfl rfl hltk1 hlenk1) fun a hf => S.p hf hs (iv ((k1 + 1 : Nat) : Int)) rfl rfl fun a hf => R.nil (X.then_ ?_)))))
   exact ⟨xk1, llk1, rfl, k1 + 1, range_drop hlk1, range_len hkk1, (by rw [hnext1] at h; exact h), ((((hf.nil.cons (hf.get 8 _ rfl)).cons (hf.get 7 _ rfl)).cons (hf.get 1 _ rfl)).cons (hf.get 9 _ rfl)), hs.drop⟩
def M_ref7_cellsOf (t : (List Task)) (r : Routed) (Q : (List Cell) → Prop) : Prop :=
  M_concat_cell r.Ways fun y1 => M_ref7_taskOf t r.Net fun y2 => idx t y2 fun x1 => must (room (y1 ++ x1.Pins).length 24) (Q (y1 ++ x1.Pins))
theorem R_ref7_cellsOf (t : (List Task)) (r : Routed) (w0 : World) (tA : Option Addr) (tC : Nat) (hv_t : View w0 (old w0 none_) tA tC t) (r_WaysA : Option Addr) (r_WaysC : Nat) (hv_r_Ways : View w0 (old w0 none_) r_WaysA r_WaysC r.Ways) (Q : (List Cell) → Prop) (h : M_ref7_cellsOf t r Q) :
  Ret Tryz.prog 34 #[.slice tA t.length tC, .agg #[.string (ba r.Net), .slice r_WaysA r.Ways.length r_WaysC]] w0 fun v w' => ∃ (r0 : (List Cell)) (r0A : Option Addr) (r0C : Nat), v = .slice r0A r0.length r0C ∧ Q r0 ∧ Sat w0 none_ [hown 55 r0A r0C r0] w' := by
 refine fn_enter Tryz.func34 rfl Tryz.ntmps34 rfl (fs := [(0, .slice tA t.length tC), (1, .agg #[.string (ba r.Net), .slice r_WaysA r.Ways.length r_WaysC])]) rfl (fun a hf => ?_)
 have hs := Sat.start w0 none_
 unfold M_ref7_cellsOf at h
 refine wp_seq (R.list (S.box hf hs rfl rfl rfl [.string (ba r.Net), .slice r_WaysA r.Ways.length r_WaysC] rfl rfl rfl (fun g1 a w hf hs => S.p hf hs (.slice none 0 0) rfl rfl fun a hf => R.nil (X.then_ (wp_seq (H.start (S := Sat w0 none_ [hbox g1 47 [.string (ba r.Net), .slice r_WaysA r.Ways.length r_WaysC]]) mo ?_))))))
 replace hs := hs.drew
 refine H.v hf hs ((pn g1 1)) 0 rfl rfl (by kernel_rfl) (V.fieldBox rfl rfl Tryz.runUnderlying47 rfl Tryz.sizeOf45 rfl rfl) fun a hf => H.v hf hs (.slice r_WaysA r.Ways.length r_WaysC) 1 rfl rfl (by kernel_rfl) (V.loadBox 0 rfl rfl rfl Tryz.isAgg45 Tryz.sizeOf45 rfl rfl) fun a hf => H.v hf hs (.slice tA t.length tC) 3 rfl rfl (by kernel_rfl) (V.pure rfl) fun a hf => H.v hf hs (.slice tA t.length tC) 4 rfl rfl (by kernel_rfl) (V.pure rfl) fun a hf => H.v hf hs ((pn g1 0)) 5 rfl rfl (by kernel_rfl) (V.fieldBox rfl rfl Tryz.runUnderlying47 rfl Tryz.sizeOf9 rfl rfl) fun a hf => H.v hf hs (.string (ba r.Net)) 6 rfl rfl (by kernel_rfl) (V.loadBox 0 rfl rfl rfl Tryz.isAgg9 Tryz.sizeOf9 rfl rfl) fun a hf => H.one (i := 2) rfl (by kernel_rfl) (S.call hf rfl rfl rfl (call_fn (vs := [.slice r_WaysA r.Ways.length r_WaysC]) rfl rfl rfl Tryz.call26) (R_concat_cell r.Ways _ r_WaysA r_WaysC ((Ag.args _ _ _).view hv_r_Ways hs) _ h) (fun v a w' hf hr => ?_))
 obtain ⟨y1, y1A, y1C, rfl, h2, hs2⟩ := hr
 replace h := h2; replace hs := hs.call hs2; clear h2 hs2
 refine R.nil (X.then_ (⟨(hs.mask [false, true]), (H.one (i := 7) rfl (by kernel_rfl) (S.call hf rfl rfl rfl (call_fn (vs := [.slice tA t.length tC, .string (ba r.Net)]) rfl rfl rfl Tryz.call28) (R_ref7_taskOf t r.Net _ tA tC ((Ag.args _ _ _).view hv_t hs) _ h) (fun v a w' hf hr => ?_)))⟩))
 obtain ⟨y2, rfl, h2, hs2⟩ := hr
 replace h := h2; replace hs := hs.call hs2; clear h2 hs2
 refine R.nil (X.then_ (⟨(hs.mask [false, true]), ?_⟩))
 obtain ⟨h0x1, x1, hx1, h⟩ := h
 obtain ⟨cs1, he1, hr1⟩ := hv_t.at_ _ _ hx1
 obtain ⟨u1A, u1C, rfl, hvu1⟩ := hr1
 refine H.val hf (hs.mask [false, true]) (v := elemPtr tA (y2.toNat * 2)) (i := 8) rfl rfl rfl rfl (by kernel_rfl) (by kernel_rfl) (by kernel_rfl) (V.index rfl rfl rfl Tryz.runUnderlying27 Tryz.sizeOf53 (hv_t.some_ (lt_of_get hx1)) h0x1 (lt_of_get hx1) rfl) (fun a hf => H.val hf (hs.mask [false, true]) (v := elemPtr tA (y2.toNat * 2 + 1)) (i := 9) rfl rfl rfl rfl (by kernel_rfl) (by kernel_rfl) (by kernel_rfl) (V.fieldEl rfl rfl (hv_t.some_ (lt_of_get hx1)) Tryz.runUnderlying53 rfl Tryz.sizeOf22 rfl rfl) (fun a hf => H.val hf (hs.mask [false, true]) (v := .slice u1A x1.Pins.length u1C) (i := 10) rfl rfl rfl rfl (by kernel_rfl) (by kernel_rfl) (by kernel_rfl) (V.loadEl (off := 1) (Ag.args _ _ _) he1 rfl rfl rfl Tryz.isAgg22 Tryz.sizeOf22 rfl rfl) (fun a hf => H.one (i := 11) rfl (by kernel_rfl) ?_)))
 obtain ⟨hroom, h⟩ := h
 refine S.appendAny 0 hf hs rfl rfl rfl rfl rfl rfl rfl Tryz.underlying22 info55 rfl hroom ((Ag.args _ _ _).view hvu1 hs) (fun A1 C1 a w hf hs => R.nil (X.then_ (⟨(hs.mask [false, true]), (H.val hf (hs.mask [false, true]) (v := .slice A1 (y1 ++ x1.Pins).length C1) (i := 12) rfl rfl rfl rfl (by kernel_rfl) (by kernel_rfl) (by kernel_rfl) (V.pure rfl) (fun a hf => H.done (by kernel_rfl) (X.then_ (wp_ret ?_))))⟩)))
 replace hs := hs.take 1
 exact L.ret hf (run_results1 Tryz.results34 (ResIs.tmp hf rfl)) ⟨(y1 ++ x1.Pins), A1, C1, rfl, h, hs⟩
def M_ref7_clashes_k4 (Q : Bool → Prop) (next3 : Prop) (c1 : Bool) : Prop :=
  cnd c1 (Q true) (next3)
def M_ref7_clashes_L3 (Q : Bool → Prop) (x1 : Routed) (y1 : (List Cell)) (xk2 : Task) (k3 : Nat) (xk3 : Cell)  (next3 : Prop) : Prop :=
  cnd (!(xk2.Net == x1.Net)) (M_contains_cell y1 xk3 fun y2 => M_ref7_clashes_k4 Q next3 y2) (M_ref7_clashes_k4 Q next3 false)
def M_ref7_clashes_L2 (Q : Bool → Prop) (x1 : Routed) (y1 : (List Cell)) (k2 : Nat) (xk2 : Task)  (next2 : Prop) : Prop :=
  forIn' (fun k x (s : Unit) next => M_ref7_clashes_L3 Q x1 y1 xk2 k x (next ())) (fun (s : Unit) => next2) xk2.Pins 0 ()
def M_ref7_clashes_L4 (Q : Bool → Prop) (y1 : (List Cell)) (k5 : Nat) (xk5 : Cell)  (next4 : Prop) : Prop :=
  M_contains_cell y1 xk5 fun y4 => cnd y4 (Q true) (next4)
def M_ref7_clashes_L1 (t : (List Task)) (Q : Bool → Prop) (y1 : (List Cell)) (k1 : Nat) (xk1 : Routed)  (next1 : Prop) : Prop :=
  M_ref7_cellsOf t xk1 fun y3 => forIn' (fun k x (s : Unit) next => M_ref7_clashes_L4 Q y1 k x (next ())) (fun (s : Unit) => next1) y3 0 ()
def M_ref7_clashes (t : (List Task)) (r : (List Routed)) (i : Int) (Q : Bool → Prop) : Prop :=
  idx r i fun x1 => M_ref7_cellsOf t x1 fun y1 => must (0 ≤ (0 : Int) ∧ (0 : Int) ≤ i ∧ i ≤ (r.length : Int)) (forIn' (fun k x (s : Unit) next => M_ref7_clashes_L1 t Q y1 k x (next ())) (fun (s : Unit) => forIn' (fun k x (s : Unit) next => M_ref7_clashes_L2 Q x1 y1 k x (next ())) (fun (s : Unit) => Q false) t 0 ()) (seg r (0 : Int) i) 0 ())
theorem R_ref7_clashes (t : (List Task)) (r : (List Routed)) (i : Int) (w0 : World) (tA : Option Addr) (tC : Nat) (hv_t : View w0 (old w0 none_) tA tC t) (rA : Option Addr) (rC : Nat) (hv_r : View w0 (old w0 none_) rA rC r) (Q : Bool → Prop) (h : M_ref7_clashes t r i Q) :
  Ret Tryz.prog 30 #[.slice tA t.length tC, .slice rA r.length rC, iv i] w0 fun v w' => ∃ (r0 : Bool), v = .bool r0 ∧ Q r0 ∧ Sat w0 none_ [] w' := by
 refine fn_enter Tryz.func30 rfl Tryz.ntmps30 rfl (fs := [(0, .slice tA t.length tC), (1, .slice rA r.length rC), (2, iv i)]) rfl (fun a hf => ?_)
 have hs := Sat.start w0 none_
 unfold M_ref7_clashes at h
 refine wp_seq (R.list (S.p hf hs (.bool false) rfl rfl fun a hf => R.nil (X.then_ (wp_seq (R.list (S.p hf hs (.slice tA t.length tC) rfl rfl fun a hf => S.p hf hs (.slice rA r.length rC) rfl rfl fun a hf => S.p hf hs (iv i) rfl rfl fun a hf => ?_))))))
 obtain ⟨h0x1, x1, hx1, h⟩ := h
 obtain ⟨cs1, he1, hr1⟩ := hv_r.at_ _ _ hx1
 obtain ⟨u1A, u1C, rfl, hvu1⟩ := hr1
 refine S.v hf hs (elemPtr rA (i.toNat * 2)) rfl (V.index rfl rfl rfl Tryz.runUnderlying28 Tryz.sizeOf47 (hv_r.some_ (lt_of_get hx1)) h0x1 (lt_of_get hx1) rfl) fun a hf => S.v hf hs (.agg #[.string (ba x1.Net), .slice u1A x1.Ways.length u1C]) rfl (V.loadEl (off := 0) (Ag.args _ _ _) he1 rfl rfl rfl Tryz.isAgg47 Tryz.sizeOf47 rfl rfl) fun a hf => S.call hf rfl rfl rfl (call_fn (vs := [.slice tA t.length tC, .agg #[.string (ba x1.Net), .slice u1A x1.Ways.length u1C]]) rfl rfl rfl Tryz.call34) (R_ref7_cellsOf t x1 _ tA tC ((Ag.args _ _ _).view hv_t hs) u1A u1C ((Ag.args _ _ _).view hvu1 hs) _ h) (fun v a w' hf hr => ?_)
 obtain ⟨y1, y1A, y1C, rfl, h2, hs2⟩ := hr
 replace h := h2; replace hs := hs.call hs2; clear h2 hs2
 refine S.p hf hs (.slice y1A y1.length y1C) rfl rfl fun a hf => R.nil (X.then_ (wp_seq (wp_seq (R.list (S.p hf hs (.slice rA r.length rC) rfl rfl fun a hf => S.p hf hs (iv i) rfl rfl fun a hf => ?_)))))
 obtain ⟨hp1, h⟩ := h
 refine S.v hf hs (.slice (segA rA rC ((0 : Int) : Int).toNat 2) (seg r (0 : Int) i).length (rC - ((0 : Int) : Int).toNat)) rfl (V.slice rfl rfl rfl rfl Tryz.runUnderlying28 Tryz.sizeOf47 rfl rfl hp1 hv_r.cap (seg_length (by have := hp1.2.2; omega))) fun a hf => S.v hf hs (iv ((seg r (0 : Int) i).length : Int)) rfl (V.len rfl rfl Tryz.runUnderlying28) fun a hf => S.p hf hs (iv 0) rfl rfl fun a hf => R.nil (X.then_ (wp_block ?_))
 have hlenk1 := (View.sub hv_r hp1).len64
 refine C.range (fun (ll : List Routed) a w => ∃ (k1 : Nat) , (seg r (0 : Int) i).drop k1 = ll ∧ k1 + ll.length = (seg r (0 : Int) i).length ∧ forIn' (fun k x (s : Unit) next => M_ref7_clashes_L1 t Q y1 k x (next ())) (fun (s : Unit) => forIn' (fun k x (s : Unit) next => M_ref7_clashes_L2 Q x1 y1 k x (next ())) (fun (s : Unit) => Q false) t 0 ()) ll k1 () ∧ FrOk 71 [(26, iv (k1 : Int)), (0, .slice tA t.length tC), (1, .slice rA r.length rC), (2, iv i), (7, .slice y1A y1.length y1C), (24, .slice (segA rA rC ((0 : Int) : Int).toNat 2) (seg r (0 : Int) i).length (rC - ((0 : Int) : Int).toNat)), (25, iv ((seg r (0 : Int) i).length : Int))] a ∧ Sat w0 none_ [hown 55 y1A y1C y1] w) (seg r (0 : Int) i) ⟨0, rfl, Nat.zero_add _, h, (((((((hf.nil.cons (hf.get 25 _ rfl)).cons (hf.get 24 _ rfl)).cons (hf.get 7 _ rfl)).cons (hf.get 2 _ rfl)).cons (hf.get 1 _ rfl)).cons (hf.get 0 _ rfl)).cons (hf.get 26 _ rfl)), hs⟩ ?_
 clear h hf hs
 rintro llk1 a w ⟨k1, hlk1, hkk1, h, hf, hs⟩
 cases llk1 with
 | nil =>
  have hc := range_done hkk1
  replace h : forIn' (fun k x (s : Unit) next => M_ref7_clashes_L2 Q x1 y1 k x (next ())) (fun (s : Unit) => Q false) t 0 () := h
  refine wp_seq (R.list (S.v hf hs (.bool false) rfl (V.cmp false rfl rfl rfl rfl hc) fun a hf => R.nil (X.then_ (wp_seq (C.no hf rfl (wp_exit (X.then_exit (X.then_exit (X.blk_exit (X.then_ (wp_seq (wp_seq (R.list (S.p hf hs (.slice tA t.length tC) rfl rfl fun a hf => S.v hf hs (iv (t.length : Int)) rfl (V.len rfl rfl Tryz.runUnderlying27) fun a hf => S.p hf hs (iv 0) rfl rfl fun a hf => ?_))))))))))))))
  refine R.nil (X.then_ (wp_block ?_))
  have hlenk2 := hv_t.len64
  refine C.range (fun (ll : List Task) a w => ∃ (k2 : Nat) , t.drop k2 = ll ∧ k2 + ll.length = t.length ∧ forIn' (fun k x (s : Unit) next => M_ref7_clashes_L2 Q x1 y1 k x (next ())) (fun (s : Unit) => Q false) ll k2 () ∧ FrOk 71 [(45, iv (k2 : Int)), (1, .slice rA r.length rC), (2, iv i), (7, .slice y1A y1.length y1C), (43, .slice tA t.length tC), (44, iv (t.length : Int))] a ∧ Sat w0 none_ [hown 55 y1A y1C y1] w) t ⟨0, rfl, Nat.zero_add _, h, ((((((hf.nil.cons (hf.get 44 _ rfl)).cons (hf.get 43 _ rfl)).cons (hf.get 7 _ rfl)).cons (hf.get 2 _ rfl)).cons (hf.get 1 _ rfl)).cons (hf.get 45 _ rfl)), hs⟩ ?_
  clear h hf hs
  rintro llk2 a w ⟨k2, hlk2, hkk2, h, hf, hs⟩
  cases llk2 with
  | nil =>
   have hc := range_done hkk2
   replace h : Q false := h
   refine wp_seq (R.list (S.v hf hs (.bool false) rfl (V.cmp false rfl rfl rfl rfl hc) fun a hf => R.nil (X.then_ (wp_seq (C.no hf rfl (wp_exit (X.then_exit (X.then_exit (X.blk_exit (X.then_ (wp_seq (R.list (S.p hf hs (.bool false) rfl rfl fun a hf => R.nil (X.then_ (wp_ret ?_)))))))))))))))
   exact L.ret hf (run_results1 Tryz.results30 (ResIs.tmp hf rfl)) ⟨false, rfl, h, hs.nil⟩
  | cons xk2 llk2 =>
   have hltk2 := range_lt hkk2; have hc := range_go hkk2; have hxk2 := range_get hlk2
   obtain ⟨next2, hnext2⟩ : ∃ X : Prop, X = (forIn' (fun k x (s : Unit) next => M_ref7_clashes_L2 Q x1 y1 k x (next ())) (fun (s : Unit) => Q false) llk2 (k2 + 1) ()) := ⟨_, rfl⟩
   replace h : M_ref7_clashes_L2 Q x1 y1 k2 xk2  next2 := by rw [hnext2]; exact h
   unfold M_ref7_clashes_L2 at h
   refine wp_seq (R.list (S.v hf hs (.bool true) rfl (V.cmp true rfl rfl rfl rfl hc) fun a hf => R.nil (X.then_ (wp_seq (C.yes hf rfl (wp_skip (X.then_ (wp_seq (wp_block (wp_seq (R.list ?_)))))))))))
   obtain ⟨cs2, he2, hr2⟩ := hv_t.at_ _ _ hxk2
   obtain ⟨u2A, u2C, rfl, hvu2⟩ := hr2
   refine S.v hf hs (elemPtr tA (k2 * 2)) rfl (V.index rfl rfl rfl Tryz.runUnderlying27 Tryz.sizeOf53 (hv_t.some_ (lt_of_get hxk2)) (Int.natCast_nonneg _) (lt_of_get hxk2) rfl) fun a hf => S.v hf hs (.agg #[.string (ba xk2.Net), .slice u2A xk2.Pins.length u2C]) rfl (V.loadEl (off := 0) (Ag.args _ _ _) he2 rfl rfl rfl Tryz.isAgg53 Tryz.sizeOf53 rfl rfl) fun a hf => S.alloc hf hs rfl rfl rfl [.string (ba []), .slice none 0 0] rfl Tryz.zeroValue53 rfl (fun g1 a w hf hs => S.storeBox 0 hf hs rfl rfl [.string (ba xk2.Net), .slice u2A xk2.Pins.length u2C] [.string (ba xk2.Net), .slice u2A xk2.Pins.length u2C] rfl rfl rfl rfl rfl Tryz.sizeOf53 rfl rfl rfl rfl (fun a w hf hs => R.nil (X.then_ (wp_seq (R.list (S.v hf hs ((pn g1 1)) rfl (V.fieldBox rfl rfl Tryz.runUnderlying53 rfl Tryz.sizeOf22 rfl rfl) fun a hf => S.v hf hs (.slice u2A xk2.Pins.length u2C) rfl (V.loadBox 0 rfl rfl rfl Tryz.isAgg22 Tryz.sizeOf22 rfl rfl) fun a hf => S.v hf hs (iv (xk2.Pins.length : Int)) rfl (V.len rfl rfl Tryz.runUnderlying22) fun a hf => ?_))))))
   refine S.p hf hs (iv 0) rfl rfl fun a hf => R.nil (X.then_ (wp_block ?_))
   have hlenk3 := hvu2.len64
   refine C.range (fun (ll : List Cell) a w => ∃ (k3 : Nat) , xk2.Pins.drop k3 = ll ∧ k3 + ll.length = xk2.Pins.length ∧ forIn' (fun k x (s : Unit) next => M_ref7_clashes_L3 Q x1 y1 xk2 k x (next ())) (fun (s : Unit) => next2) ll k3 () ∧ FrOk 71 [(52, iv (k3 : Int)), (1, .slice rA r.length rC), (2, iv i), (7, .slice y1A y1.length y1C), (13, (pn g1 0)), (43, .slice tA t.length tC), (44, iv (t.length : Int)), (45, iv (k2 : Int)), (50, .slice u2A xk2.Pins.length u2C), (51, iv (xk2.Pins.length : Int))] a ∧ Sat w0 none_ [hbox g1 53 [.string (ba xk2.Net), .slice u2A xk2.Pins.length u2C], hown 55 y1A y1C y1] w) xk2.Pins ⟨0, rfl, Nat.zero_add _, h, ((((((((((hf.nil.cons (hf.get 51 _ rfl)).cons (hf.get 50 _ rfl)).cons (hf.get 45 _ rfl)).cons (hf.get 44 _ rfl)).cons (hf.get 43 _ rfl)).cons (hf.get 13 _ rfl)).cons (hf.get 7 _ rfl)).cons (hf.get 2 _ rfl)).cons (hf.get 1 _ rfl)).cons (hf.get 52 _ rfl)), hs⟩ ?_
   clear h hf hs
   rintro llk3 a w ⟨k3, hlk3, hkk3, h, hf, hs⟩
   cases llk3 with
   | nil =>
    have hc := range_done hkk3
    replace h : next2 := h
    refine wp_seq (R.list (S.v hf hs (.bool false) rfl (V.cmp false rfl rfl rfl rfl hc) fun a hf => R.nil (X.then_ (wp_seq (C.no hf rfl (wp_exit (X.then_exit (X.then_exit (X.blk_exit (X.blk (X.then_ (R.list (S.v hf hs (iv ((k2 + 1 : Nat) : Int)) rfl (V.incr rfl rfl rfl hltk2 hlenk2) fun a hf => S.p hf hs (iv ((k2 + 1 : Nat) : Int)) rfl rfl fun a hf => R.nil (X.then_ ?_))))))))))))))
    exact ⟨xk2, llk2, rfl, k2 + 1, range_drop hlk2, range_len hkk2, (by rw [hnext2] at h; exact h), ((((((hf.nil.cons (hf.get 44 _ rfl)).cons (hf.get 43 _ rfl)).cons (hf.get 7 _ rfl)).cons (hf.get 2 _ rfl)).cons (hf.get 1 _ rfl)).cons (hf.get 45 _ rfl)), hs.drop⟩
   | cons xk3 llk3 =>
    have hltk3 := range_lt hkk3; have hc := range_go hkk3; have hxk3 := range_get hlk3
    obtain ⟨next3, hnext3⟩ : ∃ X : Prop, X = (forIn' (fun k x (s : Unit) next => M_ref7_clashes_L3 Q x1 y1 xk2 k x (next ())) (fun (s : Unit) => next2) llk3 (k3 + 1) ()) := ⟨_, rfl⟩
    replace h : M_ref7_clashes_L3 Q x1 y1 xk2 k3 xk3  next3 := by rw [hnext3]; exact h
    unfold M_ref7_clashes_L3 at h
    refine wp_seq (R.list (S.v hf hs (.bool true) rfl (V.cmp true rfl rfl rfl rfl hc) fun a hf => R.nil (X.then_ (wp_seq (C.yes hf rfl (wp_skip (X.then_ (wp_seq (wp_block (wp_seq (R.list (S.v hf hs (elemPtr u2A (k3 * 3)) rfl (V.index rfl rfl rfl Tryz.runUnderlying22 Tryz.sizeOf55 (hvu2.some_ (lt_of_get hxk3)) (Int.natCast_nonneg _) (lt_of_get hxk3) rfl) fun a hf => S.v hf hs (.agg #[iv xk3.X, iv xk3.Y, iv xk3.Layer]) rfl (V.loadEl (off := 0) (Ag.args _ _ _) (hvu2.flat hxk3) rfl rfl rfl Tryz.isAgg55 Tryz.sizeOf55 rfl rfl) fun a hf => S.alloc hf hs rfl rfl rfl [iv 0, iv 0, iv 0] rfl Tryz.zeroValue55 rfl (fun g2 a w hf hs => ?_)))))))))))))
    refine S.storeBox 0 hf hs rfl rfl [iv xk3.X, iv xk3.Y, iv xk3.Layer] [iv xk3.X, iv xk3.Y, iv xk3.Layer] rfl rfl rfl rfl rfl Tryz.sizeOf55 rfl rfl rfl rfl (fun a w hf hs => R.nil (X.then_ (wp_seq ?_)))
    refine C.cut (J := fun a w => ∃ (c1 : Bool), M_ref7_clashes_k4 Q next3 c1 ∧ FrOk 71 [(1, .slice rA r.length rC), (2, iv i), (7, .slice y1A y1.length y1C), (13, (pn g1 0)), (43, .slice tA t.length tC), (44, iv (t.length : Int)), (45, iv (k2 : Int)), (50, .slice u2A xk2.Pins.length u2C), (51, iv (xk2.Pins.length : Int)), (52, iv (k3 : Int)), (68, .bool c1)] a ∧ Sat w0 none_ [hbox g2 55 [iv xk3.X, iv xk3.Y, iv xk3.Layer], hbox g1 53 [.string (ba xk2.Net), .slice u2A xk2.Pins.length u2C], hown 55 y1A y1C y1] w) ?_ ?_
    ·rintro a w ⟨c1, h, hf, hs⟩
     unfold M_ref7_clashes_k4 at h
     refine C.cond hf (b := c1) rfl (fun hc => ?_) (fun hc => ?_)
     ·replace h := h.1 hc
      refine wp_seq (R.list (S.p hf hs (.bool true) rfl rfl fun a hf => R.nil (X.then_ (wp_ret (X.blk_ret (X.then_ret (X.then_ret (X.blk_ret (X.blk_ret (X.then_ret (X.then_ret (X.blk_ret (X.then_ret ?_)))))))))))))
      exact L.ret hf (run_results1 Tryz.results30 (ResIs.tmp hf rfl)) ⟨true, rfl, h, hs.nil⟩
     ·replace h := h.2 hc
      refine wp_skip (X.blk (X.then_ (R.list (S.v hf hs (iv ((k3 + 1 : Nat) : Int)) rfl (V.incr rfl rfl rfl hltk3 hlenk3) fun a hf => S.p hf hs (iv ((k3 + 1 : Nat) : Int)) rfl rfl fun a hf => R.nil (X.then_ ?_)))))
      exact ⟨xk3, llk3, rfl, k3 + 1, range_drop hlk3, range_len hkk3, (by rw [hnext3] at h; exact h), ((((((((((hf.nil.cons (hf.get 51 _ rfl)).cons (hf.get 50 _ rfl)).cons (hf.get 45 _ rfl)).cons (hf.get 44 _ rfl)).cons (hf.get 43 _ rfl)).cons (hf.get 13 _ rfl)).cons (hf.get 7 _ rfl)).cons (hf.get 2 _ rfl)).cons (hf.get 1 _ rfl)).cons (hf.get 52 _ rfl)), hs.drop⟩
    ·skip
     refine H.start (S := Sat w0 none_ [hbox g2 55 [iv xk3.X, iv xk3.Y, iv xk3.Layer], hbox g1 53 [.string (ba xk2.Net), .slice u2A xk2.Pins.length u2C], hown 55 y1A y1C y1]) mo ?_
     replace hs := hs.drew
     refine H.v hf hs ((pn g1 0)) 0 rfl rfl (by kernel_rfl) (V.fieldBox rfl rfl Tryz.runUnderlying53 rfl Tryz.sizeOf9 rfl rfl) fun a hf => H.v hf hs (.string (ba xk2.Net)) 1 rfl rfl (by kernel_rfl) (V.loadBox 1 rfl rfl rfl Tryz.isAgg9 Tryz.sizeOf9 rfl rfl) fun a hf => H.v hf hs (.slice rA r.length rC) 2 rfl rfl (by kernel_rfl) (V.pure rfl) fun a hf => H.v hf hs (iv i) 3 rfl rfl (by kernel_rfl) (V.pure rfl) fun a hf => H.v hf hs (elemPtr rA (i.toNat * 2)) 4 rfl rfl (by kernel_rfl) (V.index rfl rfl rfl Tryz.runUnderlying28 Tryz.sizeOf47 (hv_r.some_ (lt_of_get hx1)) h0x1 (lt_of_get hx1) rfl) fun a hf => H.v hf hs (elemPtr rA (i.toNat * 2)) 5 rfl rfl (by kernel_rfl) (V.fieldEl rfl rfl (hv_r.some_ (lt_of_get hx1)) Tryz.runUnderlying47 rfl Tryz.sizeOf9 rfl rfl) fun a hf => H.v hf hs (.string (ba x1.Net)) 6 rfl rfl (by kernel_rfl) (V.loadEl (off := 0) (Ag.args _ _ _) he1 rfl rfl rfl Tryz.isAgg9 Tryz.sizeOf9 rfl rfl) fun a hf => H.v hf hs (.bool (!(xk2.Net == x1.Net))) 7 rfl rfl (by kernel_rfl) (V.strCmp (!(xk2.Net == x1.Net)) rfl rfl rfl rfl) fun a hf => ?_
     refine H.split hf hs (b := !(xk2.Net == x1.Net)) (i := 8) rfl rfl rfl rfl (by kernel_rfl) (by kernel_rfl) (by kernel_rfl) (V.pure rfl) (fun hc a hf => ?_) (fun hc a hf => ?_)
     ·replace h := h.1 hc
      refine H.v hf hs (.slice y1A y1.length y1C) 9 rfl rfl (by kernel_rfl) (V.pure rfl) fun a hf => H.v hf hs (.agg #[iv xk3.X, iv xk3.Y, iv xk3.Layer]) 10 rfl rfl (by kernel_rfl) (V.loadBox 0 rfl rfl rfl Tryz.isAgg55 Tryz.sizeOf55 rfl rfl) fun a hf => H.one (i := 11) rfl (by kernel_rfl) (S.call hf rfl rfl rfl (call_fn (vs := [.slice y1A y1.length y1C, .agg #[iv xk3.X, iv xk3.Y, iv xk3.Layer]]) rfl rfl rfl Tryz.call56) (R_contains_cell y1 xk3 _ y1A y1C (hs.ownView 2 rfl) _ h) (fun v a w' hf hr => ?_))
      obtain ⟨y2, rfl, h2, hs2⟩ := hr
      replace h := h2; replace hs := hs.call hs2; clear h2 hs2
      refine R.nil (X.then_ (⟨hs, (H.v hf hs (.bool y2) 12 rfl rfl (by kernel_rfl) (V.pure rfl) fun a hf => H.done (by kernel_rfl) (X.then_ ?_))⟩))
      exact ⟨y2, h, (((((((((((hf.nil.cons (hf.get 68 _ rfl)).cons (hf.get 52 _ rfl)).cons (hf.get 51 _ rfl)).cons (hf.get 50 _ rfl)).cons (hf.get 45 _ rfl)).cons (hf.get 44 _ rfl)).cons (hf.get 43 _ rfl)).cons (hf.get 13 _ rfl)).cons (hf.get 7 _ rfl)).cons (hf.get 2 _ rfl)).cons (hf.get 1 _ rfl)), hs⟩
     ·replace h := h.2 hc
      refine H.k hf hs 9 rfl rfl (by kernel_rfl) fun a hf => H.k hf hs 10 rfl rfl (by kernel_rfl) fun a hf => H.one (i := 11) rfl (by kernel_rfl) (S.k hf rfl fun a hf => R.nil (X.then_ (⟨hs, (H.v hf hs (.bool false) 12 rfl rfl (by kernel_rfl) (V.pure rfl) fun a hf => H.done (by kernel_rfl) ?_)⟩)))
      refine X.then_ ?_
      exact ⟨false, h, (((((((((((hf.nil.cons (hf.get 68 _ rfl)).cons (hf.get 52 _ rfl)).cons (hf.get 51 _ rfl)).cons (hf.get 50 _ rfl)).cons (hf.get 45 _ rfl)).cons (hf.get 44 _ rfl)).cons (hf.get 43 _ rfl)).cons (hf.get 13 _ rfl)).cons (hf.get 7 _ rfl)).cons (hf.get 2 _ rfl)).cons (hf.get 1 _ rfl)), hs⟩
 | cons xk1 llk1 =>
  have hltk1 := range_lt hkk1; have hc := range_go hkk1; have hxk1 := range_get hlk1
  obtain ⟨next1, hnext1⟩ : ∃ X : Prop, X = (forIn' (fun k x (s : Unit) next => M_ref7_clashes_L1 t Q y1 k x (next ())) (fun (s : Unit) => forIn' (fun k x (s : Unit) next => M_ref7_clashes_L2 Q x1 y1 k x (next ())) (fun (s : Unit) => Q false) t 0 ()) llk1 (k1 + 1) ()) := ⟨_, rfl⟩
  replace h : M_ref7_clashes_L1 t Q y1 k1 xk1  next1 := by rw [hnext1]; exact h
  unfold M_ref7_clashes_L1 at h
  refine wp_seq (R.list (S.v hf hs (.bool true) rfl (V.cmp true rfl rfl rfl rfl hc) fun a hf => R.nil (X.then_ (wp_seq (C.yes hf rfl (wp_skip (X.then_ (wp_seq (wp_block (wp_seq (R.list ?_)))))))))))
  obtain ⟨cs3, he3, hr3⟩ := (View.sub hv_r hp1).at_ _ _ hxk1
  obtain ⟨u3A, u3C, rfl, hvu3⟩ := hr3
  refine S.v hf hs (elemPtr (segA rA rC ((0 : Int) : Int).toNat 2) (k1 * 2)) rfl (V.index rfl rfl rfl Tryz.runUnderlying28 Tryz.sizeOf47 ((View.sub hv_r hp1).some_ (lt_of_get hxk1)) (Int.natCast_nonneg _) (lt_of_get hxk1) rfl) fun a hf => S.v hf hs (.agg #[.string (ba xk1.Net), .slice u3A xk1.Ways.length u3C]) rfl (V.loadEl (off := 0) (Ag.args _ _ _) he3 rfl rfl rfl Tryz.isAgg47 Tryz.sizeOf47 rfl rfl) fun a hf => S.alloc hf hs rfl rfl rfl [.string (ba []), .slice none 0 0] rfl Tryz.zeroValue47 rfl (fun g3 a w hf hs => S.storeBox 0 hf hs rfl rfl [.string (ba xk1.Net), .slice u3A xk1.Ways.length u3C] [.string (ba xk1.Net), .slice u3A xk1.Ways.length u3C] rfl rfl rfl rfl rfl Tryz.sizeOf47 rfl rfl rfl rfl (fun a w hf hs => R.nil (X.then_ (wp_seq (R.list (S.p hf hs (.slice tA t.length tC) rfl rfl fun a hf => S.v hf hs (.agg #[.string (ba xk1.Net), .slice u3A xk1.Ways.length u3C]) rfl (V.loadBox 0 rfl rfl rfl Tryz.isAgg47 Tryz.sizeOf47 rfl rfl) fun a hf => S.call hf rfl rfl rfl (call_fn (vs := [.slice tA t.length tC, .agg #[.string (ba xk1.Net), .slice u3A xk1.Ways.length u3C]]) rfl rfl rfl Tryz.call34) (R_ref7_cellsOf t xk1 _ tA tC ((Ag.args _ _ _).view hv_t hs) u3A u3C ((Ag.args _ _ _).view hvu3 hs) _ h) (fun v a w' hf hr => ?_)))))))
  obtain ⟨y3, y3A, y3C, rfl, h2, hs2⟩ := hr
  replace h := h2; replace hs := hs.call hs2; clear h2 hs2
  refine S.v hf hs (iv (y3.length : Int)) rfl (V.len rfl rfl Tryz.runUnderlying22) fun a hf => S.p hf hs (iv 0) rfl rfl fun a hf => R.nil (X.then_ (wp_block ?_))
  have hlenk5 := (hs.ownView 0 rfl).len64
  refine C.range (fun (ll : List Cell) a w => ∃ (k5 : Nat) , y3.drop k5 = ll ∧ k5 + ll.length = y3.length ∧ forIn' (fun k x (s : Unit) next => M_ref7_clashes_L4 Q y1 k x (next ())) (fun (s : Unit) => next1) ll k5 () ∧ FrOk 71 [(34, iv (k5 : Int)), (0, .slice tA t.length tC), (1, .slice rA r.length rC), (2, iv i), (7, .slice y1A y1.length y1C), (24, .slice (segA rA rC ((0 : Int) : Int).toNat 2) (seg r (0 : Int) i).length (rC - ((0 : Int) : Int).toNat)), (25, iv ((seg r (0 : Int) i).length : Int)), (26, iv (k1 : Int)), (32, .slice y3A y3.length y3C), (33, iv (y3.length : Int))] a ∧ Sat w0 none_ [hown 55 y3A y3C y3, hbox g3 47 [.string (ba xk1.Net), .slice u3A xk1.Ways.length u3C], hown 55 y1A y1C y1] w) y3 ⟨0, rfl, Nat.zero_add _, h, ((((((((((hf.nil.cons (hf.get 33 _ rfl)).cons (hf.get 32 _ rfl)).cons (hf.get 26 _ rfl)).cons (hf.get 25 _ rfl)).cons (hf.get 24 _ rfl)).cons (hf.get 7 _ rfl)).cons (hf.get 2 _ rfl)).cons (hf.get 1 _ rfl)).cons (hf.get 0 _ rfl)).cons (hf.get 34 _ rfl)), hs⟩ ?_
  clear h hf hs
  rintro llk5 a w ⟨k5, hlk5, hkk5, h, hf, hs⟩
  cases llk5 with
  | nil =>
   have hc := range_done hkk5
   replace h : next1 := h
   refine wp_seq (R.list (S.v hf hs (.bool false) rfl (V.cmp false rfl rfl rfl rfl hc) fun a hf => R.nil (X.then_ (wp_seq (C.no hf rfl (wp_exit (X.then_exit (X.then_exit (X.blk_exit (X.blk (X.then_ (R.list (S.v hf hs (iv ((k1 + 1 : Nat) : Int)) rfl (V.incr rfl rfl rfl hltk1 hlenk1) fun a hf => S.p hf hs (iv ((k1 + 1 : Nat) : Int)) rfl rfl fun a hf => R.nil (X.then_ ?_))))))))))))))
   exact ⟨xk1, llk1, rfl, k1 + 1, range_drop hlk1, range_len hkk1, (by rw [hnext1] at h; exact h), (((((((hf.nil.cons (hf.get 25 _ rfl)).cons (hf.get 24 _ rfl)).cons (hf.get 7 _ rfl)).cons (hf.get 2 _ rfl)).cons (hf.get 1 _ rfl)).cons (hf.get 0 _ rfl)).cons (hf.get 26 _ rfl)), hs.drop.drop⟩
  | cons xk5 llk5 =>
   have hltk5 := range_lt hkk5; have hc := range_go hkk5; have hxk5 := range_get hlk5
   obtain ⟨next4, hnext4⟩ : ∃ X : Prop, X = (forIn' (fun k x (s : Unit) next => M_ref7_clashes_L4 Q y1 k x (next ())) (fun (s : Unit) => next1) llk5 (k5 + 1) ()) := ⟨_, rfl⟩
   replace h : M_ref7_clashes_L4 Q y1 k5 xk5  next4 := by rw [hnext4]; exact h
   unfold M_ref7_clashes_L4 at h
   refine wp_seq (R.list (S.v hf hs (.bool true) rfl (V.cmp true rfl rfl rfl rfl hc) fun a hf => R.nil (X.then_ (wp_seq (C.yes hf rfl (wp_skip (X.then_ (wp_seq (wp_block (wp_seq (R.list (S.v hf hs (elemPtr y3A (k5 * 3)) rfl (V.index rfl rfl rfl Tryz.runUnderlying22 Tryz.sizeOf55 (hs.ownSome 0 rfl (lt_of_get hxk5)) (Int.natCast_nonneg _) (lt_of_get hxk5) rfl) fun a hf => S.v hf hs (.agg #[iv xk5.X, iv xk5.Y, iv xk5.Layer]) rfl (V.loadOwn (off := 0) 0 rfl hxk5 rfl rfl rfl Tryz.isAgg55 Tryz.sizeOf55 rfl rfl) fun a hf => S.alloc hf hs rfl rfl rfl [iv 0, iv 0, iv 0] rfl Tryz.zeroValue55 rfl (fun g4 a w hf hs => ?_)))))))))))))
   refine S.storeBox 0 hf hs rfl rfl [iv xk5.X, iv xk5.Y, iv xk5.Layer] [iv xk5.X, iv xk5.Y, iv xk5.Layer] rfl rfl rfl rfl rfl Tryz.sizeOf55 rfl rfl rfl rfl (fun a w hf hs => R.nil (X.then_ (wp_seq (R.list (S.p hf hs (.slice y1A y1.length y1C) rfl rfl fun a hf => S.v hf hs (.agg #[iv xk5.X, iv xk5.Y, iv xk5.Layer]) rfl (V.loadBox 0 rfl rfl rfl Tryz.isAgg55 Tryz.sizeOf55 rfl rfl) fun a hf => S.call hf rfl rfl rfl (call_fn (vs := [.slice y1A y1.length y1C, .agg #[iv xk5.X, iv xk5.Y, iv xk5.Layer]]) rfl rfl rfl Tryz.call56) (R_contains_cell y1 xk5 _ y1A y1C (hs.ownView 3 rfl) _ h) (fun v a w' hf hr => ?_))))))
   obtain ⟨y4, rfl, h2, hs2⟩ := hr
   replace h := h2; replace hs := hs.call hs2; clear h2 hs2
   refine R.nil (X.then_ ?_)
   refine C.cond hf (b := y4) rfl (fun hc => ?_) (fun hc => ?_)
   ·replace h := h.1 hc
    refine wp_seq (R.list (S.p hf hs (.bool true) rfl rfl fun a hf => R.nil (X.then_ (wp_ret (X.blk_ret (X.then_ret (X.then_ret (X.blk_ret (X.blk_ret (X.then_ret (X.then_ret (X.blk_ret (X.then_ret ?_)))))))))))))
    exact L.ret hf (run_results1 Tryz.results30 (ResIs.tmp hf rfl)) ⟨true, rfl, h, hs.nil⟩
   ·replace h := h.2 hc
    refine wp_skip (X.blk (X.then_ (R.list (S.v hf hs (iv ((k5 + 1 : Nat) : Int)) rfl (V.incr rfl rfl rfl hltk5 hlenk5) fun a hf => S.p hf hs (iv ((k5 + 1 : Nat) : Int)) rfl rfl fun a hf => R.nil (X.then_ ?_)))))
    exact ⟨xk5, llk5, rfl, k5 + 1, range_drop hlk5, range_len hkk5, (by rw [hnext4] at h; exact h), ((((((((((hf.nil.cons (hf.get 33 _ rfl)).cons (hf.get 32 _ rfl)).cons (hf.get 26 _ rfl)).cons (hf.get 25 _ rfl)).cons (hf.get 24 _ rfl)).cons (hf.get 7 _ rfl)).cons (hf.get 2 _ rfl)).cons (hf.get 1 _ rfl)).cons (hf.get 0 _ rfl)).cons (hf.get 34 _ rfl)), hs.drop⟩
def M_ref7_CheckRouted_L2 (g : Grid) (Q : Int → Prop) (k3 : Nat) (xk3 : (List Cell))  (next2 : Prop) : Prop :=
  M_ref7_checkWay g xk3 fun y5 => cnd (y5 != 0) (Q y5) (next2)
def M_ref7_CheckRouted_k2 (g : Grid) (t : (List Task)) (r : (List Routed)) (Q : Int → Prop) (k1 : Nat) (xk1 : Routed) (next1 : Prop) (y2 : Int) (c1 : Bool) : Prop :=
  cnd c1 (Q 8) (cnd (decide ((xk1.Ways.length : Int) > 50)) (Q 2) (forIn' (fun k x (s : Unit) next => M_ref7_CheckRouted_L2 g Q k x (next ())) (fun (s : Unit) => M_ref7_clashes t r (k1 : Int) fun y3 => cnd y3 (Q 12) (idx t y2 fun x1 => M_ref7_hangs x1.Pins xk1.Ways fun y4 => cnd (!y4) (Q 3) (next1))) xk1.Ways 0 ()))
def M_ref7_CheckRouted_L1 (g : Grid) (t : (List Task)) (r : (List Routed)) (Q : Int → Prop) (k1 : Nat) (xk1 : Routed)  (next1 : Prop) : Prop :=
  M_ref7_taskOf t xk1.Net fun y2 => cnd (decide (y2 < 0)) (Q 9) (cnd (decide ((k1 : Int) > 0)) (idx r (w64 ((k1 : Int) - 1)) fun x2 => M_ref7_CheckRouted_k2 g t r Q k1 xk1 next1 y2 (strLt xk1.Net x2.Net || xk1.Net == x2.Net)) (M_ref7_CheckRouted_k2 g t r Q k1 xk1 next1 y2 false))
def M_ref7_CheckRouted (g : Grid) (t : (List Task)) (r : (List Routed)) (Q : Int → Prop) : Prop :=
  M_ref7_CheckTasks g t fun y1 => cnd (y1 != 0) (Q y1) (cnd (decide ((r.length : Int) > 100)) (Q 2) (forIn' (fun k x (s : Unit) next => M_ref7_CheckRouted_L1 g t r Q k x (next ())) (fun (s : Unit) => Q 0) r 0 ()))
theorem R_ref7_CheckRouted (g : Grid) (t : (List Task)) (r : (List Routed)) (w0 : World) (g_BlockedA : Option Addr) (g_BlockedC : Nat) (hv_g_Blocked : View w0 (old w0 none_) g_BlockedA g_BlockedC g.Blocked) (tA : Option Addr) (tC : Nat) (hv_t : View w0 (old w0 none_) tA tC t) (rA : Option Addr) (rC : Nat) (hv_r : View w0 (old w0 none_) rA rC r) (Q : Int → Prop) (h : M_ref7_CheckRouted g t r Q) :
  Ret Tryz.prog 9 #[.agg #[iv g.W, iv g.H, iv g.Layers, .slice g_BlockedA g.Blocked.length g_BlockedC], .slice tA t.length tC, .slice rA r.length rC] w0 fun v w' => ∃ (r0 : Int), v = iv r0 ∧ Q r0 ∧ Sat w0 none_ [] w' := by
 refine fn_enter Tryz.func9 rfl Tryz.ntmps9 rfl (fs := [(0, .agg #[iv g.W, iv g.H, iv g.Layers, .slice g_BlockedA g.Blocked.length g_BlockedC]), (1, .slice tA t.length tC), (2, .slice rA r.length rC)]) rfl (fun a hf => ?_)
 have hs := Sat.start w0 none_
 unfold M_ref7_CheckRouted at h
 refine wp_seq (R.list (S.box hf hs rfl rfl rfl [iv g.W, iv g.H, iv g.Layers, .slice g_BlockedA g.Blocked.length g_BlockedC] rfl rfl rfl (fun g1 a w hf hs => S.p hf hs (iv 0) rfl rfl fun a hf => R.nil (X.then_ (wp_seq (wp_seq (R.list (S.v hf hs (.agg #[iv g.W, iv g.H, iv g.Layers, .slice g_BlockedA g.Blocked.length g_BlockedC]) rfl (V.loadBox 0 rfl rfl rfl Tryz.isAgg24 Tryz.sizeOf24 rfl rfl) fun a hf => S.p hf hs (.slice tA t.length tC) rfl rfl fun a hf => S.call hf rfl rfl rfl (call_fn (vs := [.agg #[iv g.W, iv g.H, iv g.Layers, .slice g_BlockedA g.Blocked.length g_BlockedC], .slice tA t.length tC]) rfl rfl rfl Tryz.call17) (R_ref7_CheckTasks g t _ g_BlockedA g_BlockedC ((Ag.args _ _ _).view hv_g_Blocked hs) tA tC ((Ag.args _ _ _).view hv_t hs) _ h) (fun v a w' hf hr => ?_)))))))))
 obtain ⟨y1, rfl, h2, hs2⟩ := hr
 replace h := h2; replace hs := hs.call hs2; clear h2 hs2
 refine S.p hf hs (iv y1) rfl rfl fun a hf => R.nil (X.then_ (wp_seq (R.list (S.p hf hs (iv y1) rfl rfl fun a hf => S.p hf hs (.bool (y1 != 0)) rfl rfl fun a hf => R.nil (X.then_ ?_)))))
 refine C.cond hf (b := y1 != 0) rfl (fun hc => ?_) (fun hc => ?_)
 ·replace h := h.1 hc
  refine wp_seq (R.list (S.p hf hs (iv y1) rfl rfl fun a hf => S.p hf hs (iv y1) rfl rfl fun a hf => R.nil (X.then_ (wp_ret (X.then_ret ?_)))))
  exact L.ret hf (run_results1 Tryz.results9 (ResIs.tmp hf rfl)) ⟨y1, rfl, h, hs.nil⟩
 ·replace h := h.2 hc
  refine wp_skip (X.then_ (wp_seq (wp_seq (R.list (S.p hf hs (.slice rA r.length rC) rfl rfl fun a hf => S.v hf hs (iv (r.length : Int)) rfl (V.len rfl rfl Tryz.runUnderlying28) fun a hf => S.p hf hs (.bool (decide ((r.length : Int) > 100))) rfl rfl fun a hf => R.nil (X.then_ ?_))))))
  refine C.cond hf (b := decide ((r.length : Int) > 100)) rfl (fun hc => ?_) (fun hc => ?_)
  ·replace h := h.1 hc
   refine wp_seq (R.list (S.p hf hs (iv 2) rfl rfl fun a hf => R.nil (X.then_ (wp_ret (X.then_ret ?_)))))
   exact L.ret hf (run_results1 Tryz.results9 (ResIs.tmp hf rfl)) ⟨2, rfl, h, hs.nil⟩
  ·replace h := h.2 hc
   refine wp_skip (X.then_ (wp_seq (wp_seq (R.list (S.p hf hs (.slice rA r.length rC) rfl rfl fun a hf => S.v hf hs (iv (r.length : Int)) rfl (V.len rfl rfl Tryz.runUnderlying28) fun a hf => S.p hf hs (iv 0) rfl rfl fun a hf => R.nil (X.then_ (wp_block ?_)))))))
   have hlenk1 := hv_r.len64
   refine C.range (fun (ll : List Routed) a w => ∃ (k1 : Nat) , r.drop k1 = ll ∧ k1 + ll.length = r.length ∧ forIn' (fun k x (s : Unit) next => M_ref7_CheckRouted_L1 g t r Q k x (next ())) (fun (s : Unit) => Q 0) ll k1 () ∧ FrOk 81 [(25, iv (k1 : Int)), (1, .slice tA t.length tC), (2, .slice rA r.length rC), (3, (pn g1 0)), (23, .slice rA r.length rC), (24, iv (r.length : Int))] a ∧ Sat w0 none_ [hbox g1 24 [iv g.W, iv g.H, iv g.Layers, .slice g_BlockedA g.Blocked.length g_BlockedC]] w) r ⟨0, rfl, Nat.zero_add _, h, ((((((hf.nil.cons (hf.get 24 _ rfl)).cons (hf.get 23 _ rfl)).cons (hf.get 3 _ rfl)).cons (hf.get 2 _ rfl)).cons (hf.get 1 _ rfl)).cons (hf.get 25 _ rfl)), hs⟩ ?_
   clear h hf hs
   rintro llk1 a w ⟨k1, hlk1, hkk1, h, hf, hs⟩
   cases llk1 with
   | nil =>
    have hc := range_done hkk1
    replace h : Q 0 := h
    refine wp_seq (R.list (S.v hf hs (.bool false) rfl (V.cmp false rfl rfl rfl rfl hc) fun a hf => R.nil (X.then_ (wp_seq (C.no hf rfl (wp_exit (X.then_exit (X.then_exit (X.blk_exit (X.then_ (wp_seq (R.list (S.p hf hs (iv 0) rfl rfl fun a hf => R.nil (X.then_ (wp_ret ?_)))))))))))))))
    exact L.ret hf (run_results1 Tryz.results9 (ResIs.tmp hf rfl)) ⟨0, rfl, h, hs.nil⟩
   | cons xk1 llk1 =>
    have hltk1 := range_lt hkk1; have hc := range_go hkk1; have hxk1 := range_get hlk1
    obtain ⟨next1, hnext1⟩ : ∃ X : Prop, X = (forIn' (fun k x (s : Unit) next => M_ref7_CheckRouted_L1 g t r Q k x (next ())) (fun (s : Unit) => Q 0) llk1 (k1 + 1) ()) := ⟨_, rfl⟩
    replace h : M_ref7_CheckRouted_L1 g t r Q k1 xk1  next1 := by rw [hnext1]; exact h
    unfold M_ref7_CheckRouted_L1 at h
    refine wp_seq (R.list (S.v hf hs (.bool true) rfl (V.cmp true rfl rfl rfl rfl hc) fun a hf => R.nil (X.then_ (wp_seq (C.yes hf rfl (wp_skip (X.then_ (wp_seq (wp_block (wp_seq (R.list (S.p hf hs (iv (k1 : Int)) rfl rfl fun a hf => ?_))))))))))))
    obtain ⟨cs1, he1, hr1⟩ := hv_r.at_ _ _ hxk1
    obtain ⟨u1A, u1C, rfl, hvu1⟩ := hr1
    refine S.v hf hs (elemPtr rA (k1 * 2)) rfl (V.index rfl rfl rfl Tryz.runUnderlying28 Tryz.sizeOf47 (hv_r.some_ (lt_of_get hxk1)) (Int.natCast_nonneg _) (lt_of_get hxk1) rfl) fun a hf => S.v hf hs (.agg #[.string (ba xk1.Net), .slice u1A xk1.Ways.length u1C]) rfl (V.loadEl (off := 0) (Ag.args _ _ _) he1 rfl rfl rfl Tryz.isAgg47 Tryz.sizeOf47 rfl rfl) fun a hf => S.alloc hf hs rfl rfl rfl [.string (ba []), .slice none 0 0] rfl Tryz.zeroValue47 rfl (fun g2 a w hf hs => S.p hf hs (iv (k1 : Int)) rfl rfl fun a hf => S.storeBox 0 hf hs rfl rfl [.string (ba xk1.Net), .slice u1A xk1.Ways.length u1C] [.string (ba xk1.Net), .slice u1A xk1.Ways.length u1C] rfl rfl rfl rfl rfl Tryz.sizeOf47 rfl rfl rfl rfl (fun a w hf hs => R.nil (X.then_ (wp_seq (R.list (S.p hf hs (.slice tA t.length tC) rfl rfl fun a hf => S.v hf hs ((pn g2 0)) rfl (V.fieldBox rfl rfl Tryz.runUnderlying47 rfl Tryz.sizeOf9 rfl rfl) fun a hf => ?_))))))
    refine S.v hf hs (.string (ba xk1.Net)) rfl (V.loadBox 0 rfl rfl rfl Tryz.isAgg9 Tryz.sizeOf9 rfl rfl) fun a hf => S.call hf rfl rfl rfl (call_fn (vs := [.slice tA t.length tC, .string (ba xk1.Net)]) rfl rfl rfl Tryz.call28) (R_ref7_taskOf t xk1.Net _ tA tC ((Ag.args _ _ _).view hv_t hs) _ h) (fun v a w' hf hr => ?_)
    obtain ⟨y2, rfl, h2, hs2⟩ := hr
    replace h := h2; replace hs := hs.call hs2; clear h2 hs2
    refine S.p hf hs (iv y2) rfl rfl fun a hf => R.nil (X.then_ (wp_seq (wp_seq (R.list (S.p hf hs (iv y2) rfl rfl fun a hf => S.p hf hs (.bool (decide (y2 < 0))) rfl rfl fun a hf => R.nil (X.then_ ?_))))))
    refine C.cond hf (b := decide (y2 < 0)) rfl (fun hc => ?_) (fun hc => ?_)
    ·replace h := h.1 hc
     refine wp_seq (R.list (S.p hf hs (iv 9) rfl rfl fun a hf => R.nil (X.then_ (wp_ret (X.then_ret (X.blk_ret (X.then_ret (X.then_ret (X.blk_ret (X.then_ret ?_))))))))))
     exact L.ret hf (run_results1 Tryz.results9 (ResIs.tmp hf rfl)) ⟨9, rfl, h, hs.nil⟩
    ·replace h := h.2 hc
     refine wp_skip (X.then_ (wp_seq (wp_seq ?_)))
     refine C.cut (J := fun a w => ∃ (c1 : Bool), M_ref7_CheckRouted_k2 g t r Q k1 xk1 next1 y2 c1 ∧ FrOk 81 [(1, .slice tA t.length tC), (2, .slice rA r.length rC), (3, (pn g1 0)), (8, iv (k1 : Int)), (9, (pn g2 0)), (10, iv y2), (23, .slice rA r.length rC), (24, iv (r.length : Int)), (25, iv (k1 : Int)), (48, .bool c1)] a ∧ Sat w0 none_ [hbox g2 47 [.string (ba xk1.Net), .slice u1A xk1.Ways.length u1C], hbox g1 24 [iv g.W, iv g.H, iv g.Layers, .slice g_BlockedA g.Blocked.length g_BlockedC]] w) ?_ ?_
     ·rintro a w ⟨c1, h, hf, hs⟩
      unfold M_ref7_CheckRouted_k2 at h
      refine C.cond hf (b := c1) rfl (fun hc => ?_) (fun hc => ?_)
      ·replace h := h.1 hc
       refine wp_seq (R.list (S.p hf hs (iv 8) rfl rfl fun a hf => R.nil (X.then_ (wp_ret (X.then_ret (X.blk_ret (X.then_ret (X.then_ret (X.blk_ret (X.then_ret ?_))))))))))
       exact L.ret hf (run_results1 Tryz.results9 (ResIs.tmp hf rfl)) ⟨8, rfl, h, hs.nil⟩
      ·replace h := h.2 hc
       refine wp_skip (X.then_ (wp_seq (wp_seq (R.list (S.v hf hs ((pn g2 1)) rfl (V.fieldBox rfl rfl Tryz.runUnderlying47 rfl Tryz.sizeOf45 rfl rfl) fun a hf => S.v hf hs (.slice u1A xk1.Ways.length u1C) rfl (V.loadBox 0 rfl rfl rfl Tryz.isAgg45 Tryz.sizeOf45 rfl rfl) fun a hf => S.v hf hs (iv (xk1.Ways.length : Int)) rfl (V.len rfl rfl Tryz.runUnderlying45) fun a hf => S.p hf hs (.bool (decide ((xk1.Ways.length : Int) > 50))) rfl rfl fun a hf => R.nil (X.then_ ?_))))))
       refine C.cond hf (b := decide ((xk1.Ways.length : Int) > 50)) rfl (fun hc => ?_) (fun hc => ?_)
       ·replace h := h.1 hc
        refine wp_seq (R.list (S.p hf hs (iv 2) rfl rfl fun a hf => R.nil (X.then_ (wp_ret (X.then_ret (X.blk_ret (X.then_ret (X.then_ret (X.blk_ret (X.then_ret ?_))))))))))
        exact L.ret hf (run_results1 Tryz.results9 (ResIs.tmp hf rfl)) ⟨2, rfl, h, hs.nil⟩
       ·replace h := h.2 hc
        refine wp_skip (X.then_ (wp_seq (wp_seq (R.list (S.v hf hs ((pn g2 1)) rfl (V.fieldBox rfl rfl Tryz.runUnderlying47 rfl Tryz.sizeOf45 rfl rfl) fun a hf => S.v hf hs (.slice u1A xk1.Ways.length u1C) rfl (V.loadBox 0 rfl rfl rfl Tryz.isAgg45 Tryz.sizeOf45 rfl rfl) fun a hf => S.v hf hs (iv (xk1.Ways.length : Int)) rfl (V.len rfl rfl Tryz.runUnderlying45) fun a hf => S.p hf hs (iv 0) rfl rfl fun a hf => R.nil (X.then_ (wp_block ?_)))))))
        have hlenk3 := hvu1.len64
        refine C.range (fun (ll : List (List Cell)) a w => ∃ (k3 : Nat) , xk1.Ways.drop k3 = ll ∧ k3 + ll.length = xk1.Ways.length ∧ forIn' (fun k x (s : Unit) next => M_ref7_CheckRouted_L2 g Q k x (next ())) (fun (s : Unit) => M_ref7_clashes t r (k1 : Int) fun y3 => cnd y3 (Q 12) (idx t y2 fun x1 => M_ref7_hangs x1.Pins xk1.Ways fun y4 => cnd (!y4) (Q 3) (next1))) ll k3 () ∧ FrOk 81 [(56, iv (k3 : Int)), (1, .slice tA t.length tC), (2, .slice rA r.length rC), (3, (pn g1 0)), (8, iv (k1 : Int)), (9, (pn g2 0)), (10, iv y2), (23, .slice rA r.length rC), (24, iv (r.length : Int)), (25, iv (k1 : Int)), (54, .slice u1A xk1.Ways.length u1C), (55, iv (xk1.Ways.length : Int))] a ∧ Sat w0 none_ [hbox g2 47 [.string (ba xk1.Net), .slice u1A xk1.Ways.length u1C], hbox g1 24 [iv g.W, iv g.H, iv g.Layers, .slice g_BlockedA g.Blocked.length g_BlockedC]] w) xk1.Ways ⟨0, rfl, Nat.zero_add _, h, ((((((((((((hf.nil.cons (hf.get 55 _ rfl)).cons (hf.get 54 _ rfl)).cons (hf.get 25 _ rfl)).cons (hf.get 24 _ rfl)).cons (hf.get 23 _ rfl)).cons (hf.get 10 _ rfl)).cons (hf.get 9 _ rfl)).cons (hf.get 8 _ rfl)).cons (hf.get 3 _ rfl)).cons (hf.get 2 _ rfl)).cons (hf.get 1 _ rfl)).cons (hf.get 56 _ rfl)), hs⟩ ?_
        clear h hf hs
        rintro llk3 a w ⟨k3, hlk3, hkk3, h, hf, hs⟩
        cases llk3 with
        | nil =>
         have hc := range_done hkk3
         replace h : M_ref7_clashes t r (k1 : Int) fun y3 => cnd y3 (Q 12) (idx t y2 fun x1 => M_ref7_hangs x1.Pins xk1.Ways fun y4 => cnd (!y4) (Q 3) (next1)) := h
         refine wp_seq (R.list (S.v hf hs (.bool false) rfl (V.cmp false rfl rfl rfl rfl hc) fun a hf => R.nil (X.then_ (wp_seq (C.no hf rfl (wp_exit (X.then_exit (X.then_exit (X.blk_exit (X.then_ (wp_seq (wp_seq (R.list (S.p hf hs (.slice tA t.length tC) rfl rfl fun a hf => S.p hf hs (.slice rA r.length rC) rfl rfl fun a hf => S.p hf hs (iv (k1 : Int)) rfl rfl fun a hf => ?_))))))))))))))
         refine S.call hf rfl rfl rfl (call_fn (vs := [.slice tA t.length tC, .slice rA r.length rC, iv (k1 : Int)]) rfl rfl rfl Tryz.call30) (R_ref7_clashes t r (k1 : Int) _ tA tC ((Ag.args _ _ _).view hv_t hs) rA rC ((Ag.args _ _ _).view hv_r hs) _ h) (fun v a w' hf hr => ?_)
         obtain ⟨y3, rfl, h2, hs2⟩ := hr
         replace h := h2; replace hs := hs.call hs2; clear h2 hs2
         refine R.nil (X.then_ ?_)
         refine C.cond hf (b := y3) rfl (fun hc => ?_) (fun hc => ?_)
         ·replace h := h.1 hc
          refine wp_seq (R.list (S.p hf hs (iv 12) rfl rfl fun a hf => R.nil (X.then_ (wp_ret (X.then_ret (X.blk_ret (X.then_ret (X.then_ret (X.blk_ret (X.then_ret ?_))))))))))
          exact L.ret hf (run_results1 Tryz.results9 (ResIs.tmp hf rfl)) ⟨12, rfl, h, hs.nil⟩
         ·replace h := h.2 hc
          refine wp_skip (X.then_ (wp_seq (H.start (S := Sat w0 none_ [hbox g2 47 [.string (ba xk1.Net), .slice u1A xk1.Ways.length u1C], hbox g1 24 [iv g.W, iv g.H, iv g.Layers, .slice g_BlockedA g.Blocked.length g_BlockedC]]) mo ?_)))
          replace hs := hs.drew
          refine H.v hf hs (.slice tA t.length tC) 0 rfl rfl (by kernel_rfl) (V.pure rfl) fun a hf => H.v hf hs (iv y2) 1 rfl rfl (by kernel_rfl) (V.pure rfl) fun a hf => ?_
          obtain ⟨h0x1, x1, hx1, h⟩ := h
          obtain ⟨cs2, he2, hr2⟩ := hv_t.at_ _ _ hx1
          obtain ⟨u2A, u2C, rfl, hvu2⟩ := hr2
          refine H.v hf hs (elemPtr tA (y2.toNat * 2)) 2 rfl rfl (by kernel_rfl) (V.index rfl rfl rfl Tryz.runUnderlying27 Tryz.sizeOf53 (hv_t.some_ (lt_of_get hx1)) h0x1 (lt_of_get hx1) rfl) fun a hf => H.v hf hs (elemPtr tA (y2.toNat * 2 + 1)) 3 rfl rfl (by kernel_rfl) (V.fieldEl rfl rfl (hv_t.some_ (lt_of_get hx1)) Tryz.runUnderlying53 rfl Tryz.sizeOf22 rfl rfl) fun a hf => H.v hf hs (.slice u2A x1.Pins.length u2C) 4 rfl rfl (by kernel_rfl) (V.loadEl (off := 1) (Ag.args _ _ _) he2 rfl rfl rfl Tryz.isAgg22 Tryz.sizeOf22 rfl rfl) fun a hf => H.v hf hs ((pn g2 1)) 5 rfl rfl (by kernel_rfl) (V.fieldBox rfl rfl Tryz.runUnderlying47 rfl Tryz.sizeOf45 rfl rfl) fun a hf => H.v hf hs (.slice u1A xk1.Ways.length u1C) 6 rfl rfl (by kernel_rfl) (V.loadBox 0 rfl rfl rfl Tryz.isAgg45 Tryz.sizeOf45 rfl rfl) fun a hf => H.one (i := 7) rfl (by kernel_rfl) (S.call hf rfl rfl rfl (call_fn (vs := [.slice u2A x1.Pins.length u2C, .slice u1A xk1.Ways.length u1C]) rfl rfl rfl Tryz.call31) (R_ref7_hangs x1.Pins xk1.Ways _ u2A u2C ((Ag.args _ _ _).view hvu2 hs) u1A u1C ((Ag.args _ _ _).view hvu1 hs) _ h) (fun v a w' hf hr => ?_))
          obtain ⟨y4, rfl, h2, hs2⟩ := hr
          replace h := h2; replace hs := hs.call hs2; clear h2 hs2
          refine R.nil (X.then_ (⟨hs, (H.v hf hs (.bool (!y4)) 8 rfl rfl (by kernel_rfl) (V.pure rfl) fun a hf => H.done (by kernel_rfl) (X.then_ ?_))⟩))
          refine C.cond hf (b := !y4) rfl (fun hc => ?_) (fun hc => ?_)
          ·replace h := h.1 hc
           refine wp_seq (R.list (S.p hf hs (iv 3) rfl rfl fun a hf => R.nil (X.then_ (wp_ret (X.blk_ret (X.then_ret (X.then_ret (X.blk_ret (X.then_ret ?_)))))))))
           exact L.ret hf (run_results1 Tryz.results9 (ResIs.tmp hf rfl)) ⟨3, rfl, h, hs.nil⟩
          ·replace h := h.2 hc
           refine wp_skip (X.blk (X.then_ (R.list (S.v hf hs (iv ((k1 + 1 : Nat) : Int)) rfl (V.incr rfl rfl rfl hltk1 hlenk1) fun a hf => S.p hf hs (iv ((k1 + 1 : Nat) : Int)) rfl rfl fun a hf => R.nil (X.then_ ?_)))))
           exact ⟨xk1, llk1, rfl, k1 + 1, range_drop hlk1, range_len hkk1, (by rw [hnext1] at h; exact h), ((((((hf.nil.cons (hf.get 24 _ rfl)).cons (hf.get 23 _ rfl)).cons (hf.get 3 _ rfl)).cons (hf.get 2 _ rfl)).cons (hf.get 1 _ rfl)).cons (hf.get 25 _ rfl)), hs.drop⟩
        | cons xk3 llk3 =>
         have hltk3 := range_lt hkk3; have hc := range_go hkk3; have hxk3 := range_get hlk3
         obtain ⟨next2, hnext2⟩ : ∃ X : Prop, X = (forIn' (fun k x (s : Unit) next => M_ref7_CheckRouted_L2 g Q k x (next ())) (fun (s : Unit) => M_ref7_clashes t r (k1 : Int) fun y3 => cnd y3 (Q 12) (idx t y2 fun x1 => M_ref7_hangs x1.Pins xk1.Ways fun y4 => cnd (!y4) (Q 3) (next1))) llk3 (k3 + 1) ()) := ⟨_, rfl⟩
         replace h : M_ref7_CheckRouted_L2 g Q k3 xk3  next2 := by rw [hnext2]; exact h
         unfold M_ref7_CheckRouted_L2 at h
         refine wp_seq (R.list (S.v hf hs (.bool true) rfl (V.cmp true rfl rfl rfl rfl hc) fun a hf => R.nil (X.then_ (wp_seq (C.yes hf rfl (wp_skip (X.then_ (wp_seq (wp_block (wp_seq (R.list ?_)))))))))))
         obtain ⟨cs3, he3, hr3⟩ := hvu1.at_ _ _ hxk3
         obtain ⟨u3A, u3C, rfl, hvu3⟩ := hr3
         refine S.v hf hs (elemPtr u1A (k3 * 1)) rfl (V.index rfl rfl rfl Tryz.runUnderlying45 Tryz.sizeOf22 (hvu1.some_ (lt_of_get hxk3)) (Int.natCast_nonneg _) (lt_of_get hxk3) rfl) fun a hf => S.v hf hs (.slice u3A xk3.length u3C) rfl (V.loadEl (off := 0) (Ag.args _ _ _) he3 rfl rfl rfl Tryz.isAgg22 Tryz.sizeOf22 rfl rfl) fun a hf => S.p hf hs (.slice u3A xk3.length u3C) rfl rfl fun a hf => R.nil (X.then_ (wp_seq (R.list (S.v hf hs (.agg #[iv g.W, iv g.H, iv g.Layers, .slice g_BlockedA g.Blocked.length g_BlockedC]) rfl (V.loadBox 1 rfl rfl rfl Tryz.isAgg24 Tryz.sizeOf24 rfl rfl) fun a hf => S.p hf hs (.slice u3A xk3.length u3C) rfl rfl fun a hf => S.call hf rfl rfl rfl (call_fn (vs := [.agg #[iv g.W, iv g.H, iv g.Layers, .slice g_BlockedA g.Blocked.length g_BlockedC], .slice u3A xk3.length u3C]) rfl rfl rfl Tryz.call29) (R_ref7_checkWay g xk3 _ g_BlockedA g_BlockedC ((Ag.args _ _ _).view hv_g_Blocked hs) u3A u3C ((Ag.args _ _ _).view hvu3 hs) _ h) (fun v a w' hf hr => ?_)))))
         obtain ⟨y5, rfl, h2, hs2⟩ := hr
         replace h := h2; replace hs := hs.call hs2; clear h2 hs2
         refine S.p hf hs (iv y5) rfl rfl fun a hf => R.nil (X.then_ (wp_seq (R.list (S.p hf hs (iv y5) rfl rfl fun a hf => S.p hf hs (.bool (y5 != 0)) rfl rfl fun a hf => R.nil (X.then_ ?_)))))
         refine C.cond hf (b := y5 != 0) rfl (fun hc => ?_) (fun hc => ?_)
         ·replace h := h.1 hc
          refine wp_seq (R.list (S.p hf hs (iv y5) rfl rfl fun a hf => S.p hf hs (iv y5) rfl rfl fun a hf => R.nil (X.then_ (wp_ret (X.blk_ret (X.then_ret (X.then_ret (X.blk_ret (X.then_ret (X.blk_ret (X.then_ret (X.then_ret (X.blk_ret (X.then_ret ?_))))))))))))))
          exact L.ret hf (run_results1 Tryz.results9 (ResIs.tmp hf rfl)) ⟨y5, rfl, h, hs.nil⟩
         ·replace h := h.2 hc
          refine wp_skip (X.blk (X.then_ (R.list (S.v hf hs (iv ((k3 + 1 : Nat) : Int)) rfl (V.incr rfl rfl rfl hltk3 hlenk3) fun a hf => S.p hf hs (iv ((k3 + 1 : Nat) : Int)) rfl rfl fun a hf => R.nil (X.then_ ?_)))))
          exact ⟨xk3, llk3, rfl, k3 + 1, range_drop hlk3, range_len hkk3, (by rw [hnext2] at h; exact h), ((((((((((((hf.nil.cons (hf.get 55 _ rfl)).cons (hf.get 54 _ rfl)).cons (hf.get 25 _ rfl)).cons (hf.get 24 _ rfl)).cons (hf.get 23 _ rfl)).cons (hf.get 10 _ rfl)).cons (hf.get 9 _ rfl)).cons (hf.get 8 _ rfl)).cons (hf.get 3 _ rfl)).cons (hf.get 2 _ rfl)).cons (hf.get 1 _ rfl)).cons (hf.get 56 _ rfl)), hs⟩
     ·skip
      refine R.draw mo (by kernel_rfl) hs (D.p hf (iv (k1 : Int)) rfl rfl fun a hf => D.p hf (.bool (decide ((k1 : Int) > 0))) rfl rfl fun a hf => ?_)
      refine D.split hf (b := decide ((k1 : Int) > 0)) rfl rfl rfl (V.pure rfl) (fun hc a hf => ?_) (fun hc a hf => ?_)
      ·replace h := h.1 hc
       refine D.v hf ((pn g2 0)) rfl (V.fieldBox rfl rfl Tryz.runUnderlying47 rfl Tryz.sizeOf9 rfl rfl) fun a hf => D.v hf (.string (ba xk1.Net)) rfl (V.loadBox 0 rfl rfl rfl Tryz.isAgg9 Tryz.sizeOf9 rfl rfl) fun a hf => D.p hf (.slice rA r.length rC) rfl rfl fun a hf => D.p hf (iv (k1 : Int)) rfl rfl fun a hf => D.p hf (iv (w64 ((k1 : Int) - 1))) rfl rfl fun a hf => ?_
       obtain ⟨h0x2, x2, hx2, h⟩ := h
       obtain ⟨cs4, he4, hr4⟩ := hv_r.at_ _ _ hx2
       obtain ⟨u4A, u4C, rfl, hvu4⟩ := hr4
       refine D.v hf (elemPtr rA ((w64 ((k1 : Int) - 1)).toNat * 2)) rfl (V.index rfl rfl rfl Tryz.runUnderlying28 Tryz.sizeOf47 (hv_r.some_ (lt_of_get hx2)) h0x2 (lt_of_get hx2) rfl) fun a hf => D.v hf (elemPtr rA ((w64 ((k1 : Int) - 1)).toNat * 2)) rfl (V.fieldEl rfl rfl (hv_r.some_ (lt_of_get hx2)) Tryz.runUnderlying47 rfl Tryz.sizeOf9 rfl rfl) fun a hf => D.v hf (.string (ba x2.Net)) rfl (V.loadEl (off := 0) (Ag.args _ _ _) he4 rfl rfl rfl Tryz.isAgg9 Tryz.sizeOf9 rfl rfl) fun a hf => D.v hf (.bool (strLt xk1.Net x2.Net || xk1.Net == x2.Net)) rfl (V.strCmp (strLt xk1.Net x2.Net || xk1.Net == x2.Net) rfl rfl rfl rfl) fun a hf => D.p hf (.bool (strLt xk1.Net x2.Net || xk1.Net == x2.Net)) rfl rfl fun a hf => D.done (fun w hs => X.then_ ?_)
       exact ⟨(strLt xk1.Net x2.Net || xk1.Net == x2.Net), h, ((((((((((hf.nil.cons (hf.get 48 _ rfl)).cons (hf.get 25 _ rfl)).cons (hf.get 24 _ rfl)).cons (hf.get 23 _ rfl)).cons (hf.get 10 _ rfl)).cons (hf.get 9 _ rfl)).cons (hf.get 8 _ rfl)).cons (hf.get 3 _ rfl)).cons (hf.get 2 _ rfl)).cons (hf.get 1 _ rfl)), hs⟩
      ·replace h := h.2 hc
       refine D.k hf rfl fun a hf => D.k hf rfl fun a hf => D.k hf rfl fun a hf => D.k hf rfl fun a hf => D.k hf rfl fun a hf => D.k hf rfl fun a hf => D.k hf rfl fun a hf => D.k hf rfl fun a hf => ?_
       refine D.k hf rfl fun a hf => D.p hf (.bool false) rfl rfl fun a hf => D.done (fun w hs => X.then_ ?_)
       exact ⟨false, h, ((((((((((hf.nil.cons (hf.get 48 _ rfl)).cons (hf.get 25 _ rfl)).cons (hf.get 24 _ rfl)).cons (hf.get 23 _ rfl)).cons (hf.get 10 _ rfl)).cons (hf.get 9 _ rfl)).cons (hf.get 8 _ rfl)).cons (hf.get 3 _ rfl)).cons (hf.get 2 _ rfl)).cons (hf.get 1 _ rfl)), hs⟩
def M_ref7_Total_L2 (c : Costs) (k2 : Nat) (xk2 : (List Cell)) (n4 : Int) (next2 : Int → Prop) : Prop :=
  M_ref7_costOf c xk2 fun y3 => next2 (w64 (n4 + y3))
def M_ref7_Total_L1 (c : Costs) (k1 : Nat) (xk1 : Routed) (n2 : Int) (next1 : Int → Prop) : Prop :=
  forIn' (fun k x (s : Int) next => M_ref7_Total_L2 c k x s (fun n4 => next n4)) (fun (s : Int) => (fun (n4 : Int) => next1 n4) s) xk1.Ways 0 n2
def M_ref7_Total (g : Grid) (c : Costs) (t : (List Task)) (r : (List Routed)) (Q : Int → Int → Int → Prop) : Prop :=
  M_ref7_askGrid g c fun y1 => cnd (y1 != 0) (Q 0 0 y1) (M_ref7_CheckRouted g t r fun y2 => cnd (y2 != 0) (Q 0 0 y2) (forIn' (fun k x (s : Int) next => M_ref7_Total_L1 c k x s (fun n2 => next n2)) (fun (s : Int) => (fun (n2 : Int) => Q n2 (w64 ((t.length : Int) - (r.length : Int))) 0) s) r 0 0))
theorem R_ref7_Total (g : Grid) (c : Costs) (t : (List Task)) (r : (List Routed)) (w0 : World) (g_BlockedA : Option Addr) (g_BlockedC : Nat) (hv_g_Blocked : View w0 (old w0 none_) g_BlockedA g_BlockedC g.Blocked) (tA : Option Addr) (tC : Nat) (hv_t : View w0 (old w0 none_) tA tC t) (rA : Option Addr) (rC : Nat) (hv_r : View w0 (old w0 none_) rA rC r) (Q : Int → Int → Int → Prop) (h : M_ref7_Total g c t r Q) :
  Ret Tryz.prog 7 #[.agg #[iv g.W, iv g.H, iv g.Layers, .slice g_BlockedA g.Blocked.length g_BlockedC], .agg #[iv c.Step, iv c.Via, iv c.Turn, iv c.Against], .slice tA t.length tC, .slice rA r.length rC] w0 fun v w' => ∃ (r0 : Int) (r1 : Int) (r2 : Int), v = .tuple #[iv r0, iv r1, iv r2] ∧ Q r0 r1 r2 ∧ Sat w0 none_ [] w' := by
 refine fn_enter Tryz.func7 rfl Tryz.ntmps7 rfl (fs := [(0, .agg #[iv g.W, iv g.H, iv g.Layers, .slice g_BlockedA g.Blocked.length g_BlockedC]), (1, .agg #[iv c.Step, iv c.Via, iv c.Turn, iv c.Against]), (2, .slice tA t.length tC), (3, .slice rA r.length rC)]) rfl (fun a hf => ?_)
 have hs := Sat.start w0 none_
 unfold M_ref7_Total at h
 refine wp_seq (R.list (S.box hf hs rfl rfl rfl [iv g.W, iv g.H, iv g.Layers, .slice g_BlockedA g.Blocked.length g_BlockedC] rfl rfl rfl (fun g1 a w hf hs => S.box hf hs rfl rfl rfl [iv c.Step, iv c.Via, iv c.Turn, iv c.Against] rfl rfl rfl (fun g2 a w hf hs => S.p hf hs (iv 0) rfl rfl fun a hf => S.p hf hs (iv 0) rfl rfl fun a hf => S.p hf hs (iv 0) rfl rfl fun a hf => R.nil (X.then_ (wp_seq (wp_seq (R.list (S.v hf hs (.agg #[iv g.W, iv g.H, iv g.Layers, .slice g_BlockedA g.Blocked.length g_BlockedC]) rfl (V.loadBox 1 rfl rfl rfl Tryz.isAgg24 Tryz.sizeOf24 rfl rfl) fun a hf => ?_)))))))))
 refine S.v hf hs (.agg #[iv c.Step, iv c.Via, iv c.Turn, iv c.Against]) rfl (V.loadBox 0 rfl rfl rfl Tryz.isAgg26 Tryz.sizeOf26 rfl rfl) fun a hf => S.call hf rfl rfl rfl (call_fn (vs := [.agg #[iv g.W, iv g.H, iv g.Layers, .slice g_BlockedA g.Blocked.length g_BlockedC], .agg #[iv c.Step, iv c.Via, iv c.Turn, iv c.Against]]) rfl rfl rfl Tryz.call21) (R_ref7_askGrid g c _ g_BlockedA g_BlockedC ((Ag.args _ _ _).view hv_g_Blocked hs) _ h) (fun v a w' hf hr => ?_)
 obtain ⟨y1, rfl, h2, hs2⟩ := hr
 replace h := h2; replace hs := hs.call hs2; clear h2 hs2
 refine S.p hf hs (iv y1) rfl rfl fun a hf => R.nil (X.then_ (wp_seq (R.list (S.p hf hs (iv y1) rfl rfl fun a hf => S.p hf hs (.bool (y1 != 0)) rfl rfl fun a hf => R.nil (X.then_ ?_)))))
 refine C.cond hf (b := y1 != 0) rfl (fun hc => ?_) (fun hc => ?_)
 ·replace h := h.1 hc
  refine wp_seq (R.list (S.p hf hs (iv y1) rfl rfl fun a hf => S.p hf hs (iv 0) rfl rfl fun a hf => S.p hf hs (iv 0) rfl rfl fun a hf => S.p hf hs (iv y1) rfl rfl fun a hf => R.nil (X.then_ (wp_ret (X.then_ret ?_)))))
  exact L.ret hf (run_results3 Tryz.results7 (ResIs.tmp hf rfl) (ResIs.tmp hf rfl) (ResIs.tmp hf rfl)) ⟨0, 0, y1, rfl, h, hs.nil⟩
 ·replace h := h.2 hc
  refine wp_skip (X.then_ (wp_seq (wp_seq (R.list (S.v hf hs (.agg #[iv g.W, iv g.H, iv g.Layers, .slice g_BlockedA g.Blocked.length g_BlockedC]) rfl (V.loadBox 1 rfl rfl rfl Tryz.isAgg24 Tryz.sizeOf24 rfl rfl) fun a hf => S.p hf hs (.slice tA t.length tC) rfl rfl fun a hf => S.p hf hs (.slice rA r.length rC) rfl rfl fun a hf => S.call hf rfl rfl rfl (call_fn (vs := [.agg #[iv g.W, iv g.H, iv g.Layers, .slice g_BlockedA g.Blocked.length g_BlockedC], .slice tA t.length tC, .slice rA r.length rC]) rfl rfl rfl Tryz.call9) (R_ref7_CheckRouted g t r _ g_BlockedA g_BlockedC ((Ag.args _ _ _).view hv_g_Blocked hs) tA tC ((Ag.args _ _ _).view hv_t hs) rA rC ((Ag.args _ _ _).view hv_r hs) _ h) (fun v a w' hf hr => ?_))))))
  obtain ⟨y2, rfl, h2, hs2⟩ := hr
  replace h := h2; replace hs := hs.call hs2; clear h2 hs2
  refine S.p hf hs (iv y2) rfl rfl fun a hf => R.nil (X.then_ (wp_seq (R.list (S.p hf hs (iv y2) rfl rfl fun a hf => S.p hf hs (.bool (y2 != 0)) rfl rfl fun a hf => R.nil (X.then_ ?_)))))
  refine C.cond hf (b := y2 != 0) rfl (fun hc => ?_) (fun hc => ?_)
  ·replace h := h.1 hc
   refine wp_seq (R.list (S.p hf hs (iv y2) rfl rfl fun a hf => S.p hf hs (iv 0) rfl rfl fun a hf => S.p hf hs (iv 0) rfl rfl fun a hf => S.p hf hs (iv y2) rfl rfl fun a hf => R.nil (X.then_ (wp_ret (X.then_ret ?_)))))
   exact L.ret hf (run_results3 Tryz.results7 (ResIs.tmp hf rfl) (ResIs.tmp hf rfl) (ResIs.tmp hf rfl)) ⟨0, 0, y2, rfl, h, hs.nil⟩
  ·replace h := h.2 hc
   refine wp_skip (X.then_ (wp_seq (R.list (S.p hf hs (iv 0) rfl rfl fun a hf => R.nil (X.then_ (wp_seq (wp_seq (R.list (S.p hf hs (.slice rA r.length rC) rfl rfl fun a hf => S.v hf hs (iv (r.length : Int)) rfl (V.len rfl rfl Tryz.runUnderlying28) fun a hf => S.p hf hs (iv 0) rfl rfl fun a hf => R.nil (X.then_ (wp_block ?_)))))))))))
   have hlenk1 := hv_r.len64
   refine C.range (fun (ll : List Routed) a w => ∃ (k1 : Nat) (n2 : Int), r.drop k1 = ll ∧ k1 + ll.length = r.length ∧ forIn' (fun k x (s : Int) next => M_ref7_Total_L1 c k x s (fun n2 => next n2)) (fun (s : Int) => (fun (n2 : Int) => Q n2 (w64 ((t.length : Int) - (r.length : Int))) 0) s) ll k1 n2 ∧ FrOk 57 [(33, iv (k1 : Int)), (2, .slice tA t.length tC), (3, .slice rA r.length rC), (5, (pn g2 0)), (13, iv n2), (31, .slice rA r.length rC), (32, iv (r.length : Int))] a ∧ Sat w0 none_ [hbox g2 26 [iv c.Step, iv c.Via, iv c.Turn, iv c.Against], hbox g1 24 [iv g.W, iv g.H, iv g.Layers, .slice g_BlockedA g.Blocked.length g_BlockedC]] w) r ⟨0, 0, rfl, Nat.zero_add _, h, (((((((hf.nil.cons (hf.get 32 _ rfl)).cons (hf.get 31 _ rfl)).cons (hf.get 13 _ rfl)).cons (hf.get 5 _ rfl)).cons (hf.get 3 _ rfl)).cons (hf.get 2 _ rfl)).cons (hf.get 33 _ rfl)), hs⟩ ?_
   clear h hf hs
   rintro llk1 a w ⟨k1, n2, hlk1, hkk1, h, hf, hs⟩
   cases llk1 with
   | nil =>
    have hc := range_done hkk1
    replace h : (fun (n2 : Int) => Q n2 (w64 ((t.length : Int) - (r.length : Int))) 0) n2 := h
    refine wp_seq (R.list (S.v hf hs (.bool false) rfl (V.cmp false rfl rfl rfl rfl hc) fun a hf => R.nil (X.then_ (wp_seq (C.no hf rfl (wp_exit (X.then_exit (X.then_exit (X.blk_exit (X.then_ (wp_seq (R.list (S.p hf hs (iv n2) rfl rfl fun a hf => S.p hf hs (.slice tA t.length tC) rfl rfl fun a hf => S.v hf hs (iv (t.length : Int)) rfl (V.len rfl rfl Tryz.runUnderlying27) fun a hf => ?_)))))))))))))
    refine S.p hf hs (.slice rA r.length rC) rfl rfl fun a hf => S.v hf hs (iv (r.length : Int)) rfl (V.len rfl rfl Tryz.runUnderlying28) fun a hf => S.p hf hs (iv (w64 ((t.length : Int) - (r.length : Int)))) rfl rfl fun a hf => S.p hf hs (iv n2) rfl rfl fun a hf => S.p hf hs (iv (w64 ((t.length : Int) - (r.length : Int)))) rfl rfl fun a hf => S.p hf hs (iv 0) rfl rfl fun a hf => R.nil (X.then_ (wp_ret ?_))
    exact L.ret hf (run_results3 Tryz.results7 (ResIs.tmp hf rfl) (ResIs.tmp hf rfl) (ResIs.tmp hf rfl)) ⟨n2, (w64 ((t.length : Int) - (r.length : Int))), 0, rfl, h, hs.nil⟩
   | cons xk1 llk1 =>
    have hltk1 := range_lt hkk1; have hc := range_go hkk1; have hxk1 := range_get hlk1
    obtain ⟨next1, hnext1⟩ : ∃ X : Int → Prop, X = (fun n2 => forIn' (fun k x (s : Int) next => M_ref7_Total_L1 c k x s (fun n2 => next n2)) (fun (s : Int) => (fun (n2 : Int) => Q n2 (w64 ((t.length : Int) - (r.length : Int))) 0) s) llk1 (k1 + 1) n2) := ⟨_, rfl⟩
    replace h : M_ref7_Total_L1 c k1 xk1 n2 next1 := by rw [hnext1]; exact h
    unfold M_ref7_Total_L1 at h
    refine wp_seq (R.list (S.v hf hs (.bool true) rfl (V.cmp true rfl rfl rfl rfl hc) fun a hf => R.nil (X.then_ (wp_seq (C.yes hf rfl (wp_skip (X.then_ (wp_seq (wp_block (wp_seq (R.list ?_)))))))))))
    obtain ⟨cs1, he1, hr1⟩ := hv_r.at_ _ _ hxk1
    obtain ⟨u1A, u1C, rfl, hvu1⟩ := hr1
    refine S.v hf hs (elemPtr rA (k1 * 2)) rfl (V.index rfl rfl rfl Tryz.runUnderlying28 Tryz.sizeOf47 (hv_r.some_ (lt_of_get hxk1)) (Int.natCast_nonneg _) (lt_of_get hxk1) rfl) fun a hf => S.v hf hs (.agg #[.string (ba xk1.Net), .slice u1A xk1.Ways.length u1C]) rfl (V.loadEl (off := 0) (Ag.args _ _ _) he1 rfl rfl rfl Tryz.isAgg47 Tryz.sizeOf47 rfl rfl) fun a hf => S.alloc hf hs rfl rfl rfl [.string (ba []), .slice none 0 0] rfl Tryz.zeroValue47 rfl (fun g3 a w hf hs => S.storeBox 0 hf hs rfl rfl [.string (ba xk1.Net), .slice u1A xk1.Ways.length u1C] [.string (ba xk1.Net), .slice u1A xk1.Ways.length u1C] rfl rfl rfl rfl rfl Tryz.sizeOf47 rfl rfl rfl rfl (fun a w hf hs => R.nil (X.then_ (wp_seq (R.list (S.v hf hs ((pn g3 1)) rfl (V.fieldBox rfl rfl Tryz.runUnderlying47 rfl Tryz.sizeOf45 rfl rfl) fun a hf => S.v hf hs (.slice u1A xk1.Ways.length u1C) rfl (V.loadBox 0 rfl rfl rfl Tryz.isAgg45 Tryz.sizeOf45 rfl rfl) fun a hf => S.v hf hs (iv (xk1.Ways.length : Int)) rfl (V.len rfl rfl Tryz.runUnderlying45) fun a hf => ?_))))))
    refine S.p hf hs (iv 0) rfl rfl fun a hf => R.nil (X.then_ (wp_block ?_))
    have hlenk2 := hvu1.len64
    refine C.range (fun (ll : List (List Cell)) a w => ∃ (k2 : Nat) (n4 : Int), xk1.Ways.drop k2 = ll ∧ k2 + ll.length = xk1.Ways.length ∧ forIn' (fun k x (s : Int) next => M_ref7_Total_L2 c k x s (fun n4 => next n4)) (fun (s : Int) => (fun (n4 : Int) => next1 n4) s) ll k2 n4 ∧ FrOk 57 [(40, iv (k2 : Int)), (2, .slice tA t.length tC), (3, .slice rA r.length rC), (5, (pn g2 0)), (13, iv n4), (31, .slice rA r.length rC), (32, iv (r.length : Int)), (33, iv (k1 : Int)), (38, .slice u1A xk1.Ways.length u1C), (39, iv (xk1.Ways.length : Int))] a ∧ Sat w0 none_ [hbox g3 47 [.string (ba xk1.Net), .slice u1A xk1.Ways.length u1C], hbox g2 26 [iv c.Step, iv c.Via, iv c.Turn, iv c.Against], hbox g1 24 [iv g.W, iv g.H, iv g.Layers, .slice g_BlockedA g.Blocked.length g_BlockedC]] w) xk1.Ways ⟨0, n2, rfl, Nat.zero_add _, h, ((((((((((hf.nil.cons (hf.get 39 _ rfl)).cons (hf.get 38 _ rfl)).cons (hf.get 33 _ rfl)).cons (hf.get 32 _ rfl)).cons (hf.get 31 _ rfl)).cons (hf.get 13 _ rfl)).cons (hf.get 5 _ rfl)).cons (hf.get 3 _ rfl)).cons (hf.get 2 _ rfl)).cons (hf.get 40 _ rfl)), hs⟩ ?_
    clear h hf hs
    rintro llk2 a w ⟨k2, n4, hlk2, hkk2, h, hf, hs⟩
    cases llk2 with
    | nil =>
     have hc := range_done hkk2
     replace h : (fun (n4 : Int) => next1 n4) n4 := h
     refine wp_seq (R.list (S.v hf hs (.bool false) rfl (V.cmp false rfl rfl rfl rfl hc) fun a hf => R.nil (X.then_ (wp_seq (C.no hf rfl (wp_exit (X.then_exit (X.then_exit (X.blk_exit (X.blk (X.then_ (R.list (S.v hf hs (iv ((k1 + 1 : Nat) : Int)) rfl (V.incr rfl rfl rfl hltk1 hlenk1) fun a hf => S.p hf hs (iv ((k1 + 1 : Nat) : Int)) rfl rfl fun a hf => R.nil (X.then_ ?_))))))))))))))
     exact ⟨xk1, llk1, rfl, k1 + 1, n4, range_drop hlk1, range_len hkk1, (by rw [hnext1] at h; exact h), (((((((hf.nil.cons (hf.get 32 _ rfl)).cons (hf.get 31 _ rfl)).cons (hf.get 13 _ rfl)).cons (hf.get 5 _ rfl)).cons (hf.get 3 _ rfl)).cons (hf.get 2 _ rfl)).cons (hf.get 33 _ rfl)), hs.drop⟩
    | cons xk2 llk2 =>
     have hltk2 := range_lt hkk2; have hc := range_go hkk2; have hxk2 := range_get hlk2
     obtain ⟨next2, hnext2⟩ : ∃ X : Int → Prop, X = (fun n4 => forIn' (fun k x (s : Int) next => M_ref7_Total_L2 c k x s (fun n4 => next n4)) (fun (s : Int) => (fun (n4 : Int) => next1 n4) s) llk2 (k2 + 1) n4) := ⟨_, rfl⟩
     replace h : M_ref7_Total_L2 c k2 xk2 n4 next2 := by rw [hnext2]; exact h
     unfold M_ref7_Total_L2 at h
     refine wp_seq (R.list (S.v hf hs (.bool true) rfl (V.cmp true rfl rfl rfl rfl hc) fun a hf => R.nil (X.then_ (wp_seq (C.yes hf rfl (wp_skip (X.then_ (wp_seq (wp_block (wp_seq (R.list ?_)))))))))))
     obtain ⟨cs2, he2, hr2⟩ := hvu1.at_ _ _ hxk2
     obtain ⟨u2A, u2C, rfl, hvu2⟩ := hr2
     refine S.v hf hs (elemPtr u1A (k2 * 1)) rfl (V.index rfl rfl rfl Tryz.runUnderlying45 Tryz.sizeOf22 (hvu1.some_ (lt_of_get hxk2)) (Int.natCast_nonneg _) (lt_of_get hxk2) rfl) fun a hf => S.v hf hs (.slice u2A xk2.length u2C) rfl (V.loadEl (off := 0) (Ag.args _ _ _) he2 rfl rfl rfl Tryz.isAgg22 Tryz.sizeOf22 rfl rfl) fun a hf => S.p hf hs (.slice u2A xk2.length u2C) rfl rfl fun a hf => R.nil (X.then_ (R.list (S.p hf hs (iv n4) rfl rfl fun a hf => S.v hf hs (.agg #[iv c.Step, iv c.Via, iv c.Turn, iv c.Against]) rfl (V.loadBox 1 rfl rfl rfl Tryz.isAgg26 Tryz.sizeOf26 rfl rfl) fun a hf => S.p hf hs (.slice u2A xk2.length u2C) rfl rfl fun a hf => S.call hf rfl rfl rfl (call_fn (vs := [.agg #[iv c.Step, iv c.Via, iv c.Turn, iv c.Against], .slice u2A xk2.length u2C]) rfl rfl rfl Tryz.call22) (R_ref7_costOf c xk2 _ u2A u2C ((Ag.args _ _ _).view hvu2 hs) _ h) (fun v a w' hf hr => ?_))))
     obtain ⟨y3, rfl, h2, hs2⟩ := hr
     replace h := h2; replace hs := hs.call hs2; clear h2 hs2
     refine S.p hf hs (iv (w64 (n4 + y3))) rfl rfl fun a hf => S.p hf hs (iv (w64 (n4 + y3))) rfl rfl fun a hf => R.nil (X.blk (X.then_ (R.list (S.v hf hs (iv ((k2 + 1 : Nat) : Int)) rfl (V.incr rfl rfl rfl hltk2 hlenk2) fun a hf => S.p hf hs (iv ((k2 + 1 : Nat) : Int)) rfl rfl fun a hf => R.nil (X.then_ ?_)))))
     exact ⟨xk2, llk2, rfl, k2 + 1, (w64 (n4 + y3)), range_drop hlk2, range_len hkk2, (by rw [hnext2] at h; exact h), ((((((((((hf.nil.cons (hf.get 39 _ rfl)).cons (hf.get 38 _ rfl)).cons (hf.get 33 _ rfl)).cons (hf.get 32 _ rfl)).cons (hf.get 31 _ rfl)).cons (hf.get 13 _ rfl)).cons (hf.get 5 _ rfl)).cons (hf.get 3 _ rfl)).cons (hf.get 2 _ rfl)).cons (hf.get 40 _ rfl)), hs⟩
def M_clone_cell (s_ : (List Cell)) (Q : (List Cell) → Prop) : Prop :=
  nilq s_ fun b1 => cnd b1 (Q ([] : List Cell)) (must (room (([] : List Cell) ++ s_).length 24) (Q (([] : List Cell) ++ s_)))
theorem R_clone_cell (s_ : (List Cell)) (w0 : World) (s_A : Option Addr) (s_C : Nat) (hv_s_ : View w0 (old w0 none_) s_A s_C s_) (Q : (List Cell) → Prop) (h : M_clone_cell s_ Q) :
  Ret Tryz.prog 75 #[.slice s_A s_.length s_C] w0 fun v w' => ∃ (r0 : (List Cell)) (r0A : Option Addr) (r0C : Nat), v = .slice r0A r0.length r0C ∧ Q r0 ∧ Sat w0 none_ [hown 55 r0A r0C r0] w' := by
 refine fn_enter Tryz.func75 rfl Tryz.ntmps75 rfl (fs := [(0, .slice s_A s_.length s_C)]) rfl (fun a hf => ?_)
 have hs := Sat.start w0 none_
 unfold M_clone_cell at h
 refine wp_seq (R.list (S.p hf hs (.slice none 0 0) rfl rfl fun a hf => R.nil (X.then_ (wp_seq (wp_seq (R.list (S.p hf hs (.slice s_A s_.length s_C) rfl rfl fun a hf => ?_)))))))
 obtain ⟨b1, hb1⟩ : ∃ b : Bool, b = Option.isNone s_A := ⟨_, rfl⟩
 replace h := h b1 (fun e => ((Ag.args _ _ _).view hv_s_ hs).nil_of (hb1.symm.trans e))
 refine S.v hf hs (.bool b1) rfl (V.eqNil b1 rfl rfl rfl Tryz.underlying22 (by kernel_rfl) hb1) fun a hf => R.nil (X.then_ ?_)
 refine C.cond hf (b := b1) rfl (fun hc => ?_) (fun hc => ?_)
 ·replace h := h.1 hc
  refine wp_seq (R.list (S.p hf hs (.slice none 0 0) rfl rfl fun a hf => R.nil (X.then_ (wp_ret (X.then_ret ?_)))))
  replace hs := hs.nilOwn (α := Cell) 55
  replace hs := hs.take 1
  exact L.ret hf (run_results1 Tryz.results75 (ResIs.tmp hf rfl)) ⟨([] : List Cell), none, 0, rfl, h, hs⟩
 ·replace h := h.2 hc
  refine wp_skip (X.then_ (wp_seq (R.list (S.buildEmpty (α := Cell) hf hs rfl rfl rfl rfl Tryz.runUnderlying22 Tryz.sizeOf55 (fun A1 a w hf hs => S.p hf hs (.slice s_A s_.length s_C) rfl rfl fun a hf => ?_)))))
  obtain ⟨hroom, h⟩ := h
  refine S.appendAny 0 hf hs rfl rfl rfl rfl rfl rfl rfl Tryz.underlying22 info55 rfl hroom ((Ag.args _ _ _).view hv_s_ hs) (fun A2 C1 a w hf hs => S.p hf hs (.slice A2 (([] : List Cell) ++ s_).length C1) rfl rfl fun a hf => R.nil (X.then_ (wp_ret ?_)))
  replace hs := hs.take 1
  exact L.ret hf (run_results1 Tryz.results75 (ResIs.tmp hf rfl)) ⟨(([] : List Cell) ++ s_), A2, C1, rfl, h, hs⟩
def M_insert_cell (s_ : (List Cell)) (i : Int) (v_ : (List Cell)) (Q : (List Cell) → (List Cell) → Prop) : Prop :=
  must (0 ≤ i ∧ i ≤ (s_.length : Int) ∧ v_ ≠ [] ∧ room (s_.length + v_.length) 24) (Q (s_.take i.toNat ++ v_ ++ s_.drop i.toNat) v_)
theorem R_insert_cell (s_ : (List Cell)) (i : Int) (v_ : (List Cell)) (w0 : World) (F0 : Nat → Prop) (s_A : Option Addr) (s_C : Nat) (v_A : Option Addr) (v_C : Nat) (hs0 : Sat w0 F0 [hown 55 s_A s_C s_, hown 55 v_A v_C v_] w0) (Q : (List Cell) → (List Cell) → Prop) (h : M_insert_cell s_ i v_ Q) :
  Ret Tryz.prog 77 #[.slice s_A s_.length s_C, .int .i64 i, .slice v_A v_.length v_C] w0 fun v w' => ∃ (r0 : (List Cell)) (r0A : Option Addr) (r0C : Nat) (v_1 : (List Cell)) (hl_v_1 : v_1.length = v_.length), v = .slice r0A r0.length r0C ∧ Q r0 v_1 ∧ Sat w0 F0 [hown 55 r0A r0C r0, hown 55 v_A v_C v_1] w' := by
 obtain ⟨⟨h0, h1, hvne, hroom⟩, hq⟩ := h
 obtain ⟨k, rfl⟩ : ∃ k : Nat, i = (k : Int) := ⟨i.toNat, by omega⟩
 have hkn : k ≤ s_.length := by omega
 rw [Int.toNat_natCast] at hq
 have hm0 : 0 < v_.length := List.length_pos_iff.2 hvne
 have hszE : ∀ w, (Go.sizeOf 55).run Tryz.prog w = .ok (Flat.sz Cell) w := Tryz.sizeOf55
 have hbig : s_.length + v_.length ≤ 9223372036854775807 := hroom.1
 refine fn_enter Tryz.func77 rfl Tryz.ntmps77 rfl (fs := [(0, .slice s_A s_.length s_C), (1, .int .i64 (k : Int)), (2, .slice v_A v_.length v_C)]) rfl (fun a hf => ?_)
 have hs := hs0
 refine wp_seq (R.list (S.val hf hs (v := .slice none 0 0) rfl rfl rfl (V.pure rfl) (fun a hf => R.nil (X.then_ (wp_seq (R.list (S.val hf hs (v := .slice s_A s_.length s_C) rfl rfl rfl (V.pure rfl) (fun a hf => S.val hf hs (v := .int .i64 (k : Int)) rfl rfl rfl (V.pure rfl) (fun a hf => ?_)))))))))
 have hp1 : 0 ≤ (k : Int) ∧ (k : Int) ≤ (s_.length : Int) ∧ (s_.length : Int) ≤ (s_.length : Int) := ⟨Int.natCast_nonneg _, by omega, Int.le_refl _⟩
 refine S.val hf hs (v := .slice (segA s_A s_C (k : Int).toNat 3) (s_.length - k) (s_C - (k : Int).toNat)) rfl rfl rfl (V.slice (L := (k : Int)) (H := (s_.length : Int)) rfl rfl rfl rfl Tryz.runUnderlying22 Tryz.sizeOf55 rfl rfl hp1 (hs.ownView 0 rfl).cap (by simp)) (fun a hf => R.nil (X.then_ (wp_seq (R.list (S.val hf hs (v := .slice v_A v_.length v_C) rfl rfl rfl (V.pure rfl) (fun a hf => S.val hf hs (v := .int .i64 (v_.length : Int)) rfl rfl rfl (V.len rfl rfl Tryz.runUnderlying22) (fun a hf => S.val hf hs (v := .int .i64 (v_.length : Int)) rfl rfl rfl (V.pure rfl) (fun a hf => R.nil (X.then_ (wp_seq (wp_seq (R.list (S.val hf hs (v := .int .i64 (v_.length : Int)) rfl rfl rfl (V.pure rfl) (fun a hf => S.val hf hs (v := .bool ((v_.length : Int) == 0)) rfl rfl rfl (V.pure rfl) (fun a hf => ?_)))))))))))))))
 refine R.nil (X.then_ ?_)
 refine C.cond hf (b := ((v_.length : Int) == 0)) rfl (fun hc => ?_) (fun hc => ?_)
 ·exfalso; simp at hc; exact hvne hc
 refine wp_skip (X.then_ (wp_seq (R.list (S.val hf hs (v := .slice s_A s_.length s_C) rfl rfl rfl (V.pure rfl) (fun a hf => S.val hf hs (v := .int .i64 (s_.length : Int)) rfl rfl rfl (V.len rfl rfl Tryz.runUnderlying22) (fun a hf => S.val hf hs (v := .int .i64 (s_.length : Int)) rfl rfl rfl (V.pure rfl) (fun a hf => R.nil (X.then_ (wp_seq (wp_seq (R.list (S.val hf hs (v := .int .i64 (k : Int)) rfl rfl rfl (V.pure rfl) (fun a hf => S.val hf hs (v := .int .i64 (s_.length : Int)) rfl rfl rfl (V.pure rfl) (fun a hf => S.val hf hs (v := .bool ((k : Int) == (s_.length : Int))) rfl rfl rfl (V.pure rfl) (fun a hf => ?_)))))))))))))))
 refine R.nil (X.then_ ?_)
 refine C.cond hf (b := ((k : Int) == (s_.length : Int))) rfl (fun hi => ?_) (fun hi => ?_)
 ·have hkn' : k = s_.length := by simp at hi; omega
  refine wp_seq (R.list (S.val hf hs (v := .slice s_A s_.length s_C) rfl rfl rfl (V.pure rfl) (fun a hf => S.val hf hs (v := .slice v_A v_.length v_C) rfl rfl rfl (V.pure rfl) (fun a hf => S.appendAny 0 hf hs rfl rfl rfl rfl rfl rfl rfl Tryz.underlying22 info55 rfl (by rw [List.length_append]; exact hroom) (hs.ownView 1 rfl) (fun A1 C1 a w hf hs => S.val hf hs (v := .slice A1 (s_ ++ v_).length C1) rfl rfl rfl (V.pure rfl) (fun a hf => R.nil (X.then_ (wp_ret (X.then_ret ?_)))))))))
  have hq' : Q (s_ ++ v_) v_ := by subst hkn'; simpa using hq
  exact L.ret hf (run_results1 Tryz.results77 (ResIs.tmp hf rfl)) ⟨s_ ++ v_, A1, C1, v_, rfl, rfl, hq', hs⟩
 refine wp_skip (X.then_ ?_)
 have hlt : k < s_.length := by simp at hi; omega
 obtain ⟨g1, cs1, hsA, hCl, hCm, hcl, hct, hsr⟩ := hs.toRaw 0 rfl (Nat.lt_of_le_of_lt (Nat.zero_le _) hlt)
 subst hsA
 refine wp_seq (wp_seq (R.list (S.val hf hs (v := .int .i64 (s_.length : Int)) rfl rfl rfl (V.pure rfl) (fun a hf => S.val hf hs (v := .int .i64 (v_.length : Int)) rfl rfl rfl (V.pure rfl) (fun a hf => S.val hf hs (v := .int .i64 ((s_.length + v_.length : Nat) : Int)) rfl rfl rfl (V.addNat rfl rfl rfl rfl hbig) (fun a hf => S.val hf hs (v := .slice (some ⟨g1, 0, none⟩) s_.length s_C) rfl rfl rfl (V.pure rfl) (fun a hf => S.val hf hs (v := .int .i64 (s_C : Int)) rfl rfl rfl (V.cap rfl rfl Tryz.runUnderlying22) (fun a hf => S.val hf hs (v := .bool (decide (((s_.length + v_.length : Nat) : Int) > (s_C : Int)))) rfl rfl rfl (V.pure rfl) (fun a hf => R.nil (X.then_ ?_))))))))))
 refine C.cond hf (b := decide (((s_.length + v_.length : Nat) : Int) > (s_C : Int))) rfl (fun hc2 => ?_) (fun hc2 => ?_)
 ·have hgr : s_C < s_.length + v_.length := by simp at hc2; omega
  have hkc : k + (s_.length + v_.length - k) = s_.length + v_.length := by omega
  refine wp_seq (R.list (S.val hf hs (v := .slice (some ⟨g1, 0, none⟩) s_.length s_C) rfl rfl rfl (V.pure rfl) (fun a hf => S.val hf hs (v := .int .i64 (k : Int)) rfl rfl rfl (V.pure rfl) (fun a hf => S.val hf hs (v := .slice (some ⟨g1, 0, none⟩) k s_C) rfl rfl rfl (V.sliceCap rfl rfl rfl Tryz.runUnderlying22 Tryz.sizeOf55 (by omega)) (fun a hf => S.val hf hs (v := .int .i64 (s_.length : Int)) rfl rfl rfl (V.pure rfl) (fun a hf => S.val hf hs (v := .int .i64 (v_.length : Int)) rfl rfl rfl (V.pure rfl) (fun a hf => S.val hf hs (v := .int .i64 ((s_.length + v_.length : Nat) : Int)) rfl rfl rfl (V.addNat rfl rfl rfl rfl hbig) (fun a hf => S.val hf hs (v := .int .i64 (k : Int)) rfl rfl rfl (V.pure rfl) (fun a hf => ?_)))))))))
  refine S.val hf hs (v := .int .i64 (((s_.length + v_.length - k) : Nat) : Int)) rfl rfl rfl (V.subNat rfl rfl rfl hkc hbig) (fun a hf => S.growRaw 0 (α := Cell) hf hs rfl rfl rfl rfl rfl hkn rfl rfl Tryz.underlying22 Tryz.underlying3 info55 rfl (by omega) (by omega) (by rw [hkc]; exact hroom) (fun g cs C' a w hf i1 i2 i3 i4 hs => ?_))
  rw [hkc] at hf i2
  refine S.val hf hs (v := .slice (some ⟨g, 0, none⟩) (s_.length + v_.length) C') rfl rfl rfl (V.pure rfl) (fun a hf => R.nil (X.then_ (wp_seq (R.list (S.val hf hs (v := .slice (some ⟨g, 0, none⟩) (s_.length + v_.length) C') rfl rfl rfl (V.pure rfl) (fun a hf => S.val hf hs (v := .int .i64 (k : Int)) rfl rfl rfl (V.pure rfl) (fun a hf => S.val hf hs (v := .slice (some ⟨g, 0 + k * 3, none⟩) (s_.length + v_.length - k) (C' - k)) rfl rfl rfl (V.sliceFrom rfl rfl rfl Tryz.runUnderlying22 Tryz.sizeOf55 (by omega) i2 (by omega)) (fun a hf => S.val hf hs (v := .slice v_A v_.length v_C) rfl rfl rfl (V.pure rfl) (fun a hf => ?_)))))))))
  have hfit1 : 0 + k * 3 + v_.length * Flat.sz Cell ≤ cs.length := by rw [i1]; show 0 + k * Flat.sz Cell + _ ≤ _; rw [Nat.zero_add, ← Nat.add_mul]; exact Nat.mul_le_mul_right _ (by omega)
  refine S.copyRaw 0 hf hs rfl rfl rfl rfl rfl rfl rfl Tryz.underlying22 hszE v_ (hs.ownSome 2 rfl hm0) (hs.ownView 2 rfl) (by omega) hfit1 (fun a w hf hs => R.nil (X.then_ (wp_seq (H.start (S := Sat w0 F0 [hown 55 (some ⟨g1, 0, none⟩) s_C s_, hown 55 v_A v_C v_]) mo ?_))))
  replace hs := hs.drew
  refine H.val hf (hs.mask [false, true, true]) (v := .slice (some ⟨g, 0, none⟩) (s_.length + v_.length) C') (i := 0) rfl rfl rfl rfl (by kernel_rfl) (by kernel_rfl) (by kernel_rfl) (V.pure rfl) (fun a hf => H.val hf (hs.mask [false, true, true]) (v := .int .i64 (k : Int)) (i := 1) rfl rfl rfl rfl (by kernel_rfl) (by kernel_rfl) (by kernel_rfl) (V.pure rfl) (fun a hf => H.val hf (hs.mask [false, true, true]) (v := .int .i64 (v_.length : Int)) (i := 2) rfl rfl rfl rfl (by kernel_rfl) (by kernel_rfl) (by kernel_rfl) (V.pure rfl) (fun a hf => H.val hf (hs.mask [false, true, true]) (v := .int .i64 ((k + v_.length : Nat) : Int)) (i := 3) rfl rfl rfl rfl (by kernel_rfl) (by kernel_rfl) (by kernel_rfl) (V.addNat rfl rfl rfl rfl (by omega)) (fun a hf => H.val hf (hs.mask [false, true, true]) (v := .slice (some ⟨g, 0 + (k + v_.length) * 3, none⟩) (s_.length + v_.length - (k + v_.length)) (C' - (k + v_.length))) (i := 4) rfl rfl rfl rfl (by kernel_rfl) (by kernel_rfl) (by kernel_rfl) (V.sliceFrom rfl rfl rfl Tryz.runUnderlying22 Tryz.sizeOf55 (by omega) i2 (by omega)) (fun a hf => H.val hf (hs.mask [false, true, true]) (v := .slice (some ⟨g1, 0, none⟩) s_.length s_C) (i := 5) rfl rfl rfl rfl (by kernel_rfl) (by kernel_rfl) (by kernel_rfl) (V.pure rfl) (fun a hf => H.val hf (hs.mask [false, true, true]) (v := .int .i64 (k : Int)) (i := 6) rfl rfl rfl rfl (by kernel_rfl) (by kernel_rfl) (by kernel_rfl) (V.pure rfl) (fun a hf => H.val hf (hs.mask [false, true, true]) (v := .slice (some ⟨g1, 0 + k * 3, none⟩) (s_.length - k) (s_C - k)) (i := 7) rfl rfl rfl rfl (by kernel_rfl) (by kernel_rfl) (by kernel_rfl) (V.sliceFrom rfl rfl rfl Tryz.runUnderlying22 Tryz.sizeOf55 (by omega) hCl (by omega)) (fun a hf => ?_))))))))
  refine H.one (i := 8) rfl (by kernel_rfl) ?_
  have hlc1 : (cs.take (0 + k * 3) ++ v_.flatMap Flat.enc ++ cs.drop (0 + k * 3 + v_.length * Flat.sz Cell)).length = C' * Flat.sz Cell := by rw [← i1]; simp only [List.length_append, List.length_take, List.length_drop, length_flatMap_enc]; omega
  have hfit2 : 0 + (k + v_.length) * 3 + (s_.drop k).length * Flat.sz Cell ≤ (cs.take (0 + k * 3) ++ v_.flatMap Flat.enc ++ cs.drop (0 + k * 3 + v_.length * Flat.sz Cell)).length := by rw [hlc1]; show 0 + (k + v_.length) * Flat.sz Cell + _ ≤ _; rw [Nat.zero_add, ← Nat.add_mul, List.length_drop]; exact Nat.mul_le_mul_right _ (by omega)
  refine S.copyRaw 0 hf hs rfl rfl rfl rfl rfl rfl rfl Tryz.underlying22 hszE (s_.drop k) rfl (View.from_ (hs.ownView 1 rfl) hkn) (by rw [List.length_drop]; omega) hfit2 (fun a w hf hs => R.nil (X.then_ (⟨(hs.mask [false, true, true]), (H.done (by kernel_rfl) (X.then_ (wp_seq (R.list (S.val hf hs (v := .slice (some ⟨g, 0, none⟩) (s_.length + v_.length) C') rfl rfl rfl (V.pure rfl) (fun a hf => S.val hf hs (v := .slice (some ⟨g, 0, none⟩) (s_.length + v_.length) C') rfl rfl rfl (V.pure rfl) (fun a hf => R.nil (X.then_ (wp_ret (X.then_ret ?_))))))))))⟩)))
  have hs2 := hs.ofRaw 0 rfl (C := C') (s_.take k ++ v_ ++ s_.drop k) (by rw [← hlc1, List.length_append, List.length_append, List.length_take, List.length_drop, length_flatMap_enc]; omega) (by simp only [List.length_append, List.length_take, List.length_drop]; omega) i3 (insert_cells hkn hfit1 hfit2 i4)
  have hlen : (s_.take k ++ v_ ++ s_.drop k).length = s_.length + v_.length := by simp only [List.length_append, List.length_take, List.length_drop]; omega
  exact L.ret hf (run_results1 Tryz.results77 (ResIs.tmp hf rfl)) ⟨s_.take k ++ v_ ++ s_.drop k, some ⟨g, 0, none⟩, C', v_, rfl, by rw [hlen], hq, hs2.mask [true, false, true]⟩
 refine wp_skip (X.then_ ?_)
 have hrm : s_.length + v_.length ≤ s_C := by simp at hc2; omega
 refine wp_seq (R.list (S.val hf hs (v := .slice (some ⟨g1, 0, none⟩) s_.length s_C) rfl rfl rfl (V.pure rfl) (fun a hf => S.val hf hs (v := .int .i64 (s_.length : Int)) rfl rfl rfl (V.pure rfl) (fun a hf => S.val hf hs (v := .int .i64 (v_.length : Int)) rfl rfl rfl (V.pure rfl) (fun a hf => S.val hf hs (v := .int .i64 ((s_.length + v_.length : Nat) : Int)) rfl rfl rfl (V.addNat rfl rfl rfl rfl hbig) (fun a hf => S.val hf hs (v := .slice (some ⟨g1, 0, none⟩) (s_.length + v_.length) s_C) rfl rfl rfl (V.sliceCap rfl rfl rfl Tryz.runUnderlying22 Tryz.sizeOf55 hrm) (fun a hf => S.val hf hs (v := .slice (some ⟨g1, 0, none⟩) (s_.length + v_.length) s_C) rfl rfl rfl (V.pure rfl) (fun a hf => R.nil (X.then_ ?_)))))))))
 replace hs := hs.toRaw 0 rfl (Nat.lt_of_le_of_lt (Nat.zero_le _) hlt)
 clear hcl hct hsr
 obtain ⟨g2, cs, hsA, _, _, i1, i4, hs⟩ := hs
 injection hsA with hsA; injection hsA with hsA; subst hsA
 refine wp_seq (wp_seq (R.list (S.val hf hs (v := .slice v_A v_.length v_C) rfl rfl rfl (V.pure rfl) (fun a hf => S.val hf hs (v := .slice (some ⟨g1, 0, none⟩) (s_.length + v_.length) s_C) rfl rfl rfl (V.pure rfl) (fun a hf => S.val hf hs (v := .int .i64 (k : Int)) rfl rfl rfl (V.pure rfl) (fun a hf => S.val hf hs (v := .int .i64 (v_.length : Int)) rfl rfl rfl (V.pure rfl) (fun a hf => S.val hf hs (v := .int .i64 ((k + v_.length : Nat) : Int)) rfl rfl rfl (V.addNat rfl rfl rfl rfl (by omega)) (fun a hf => S.val hf hs (v := .slice (some ⟨g1, 0 + (k + v_.length) * 3, none⟩) (s_.length + v_.length - (k + v_.length)) (s_C - (k + v_.length))) rfl rfl rfl (V.sliceFrom rfl rfl rfl Tryz.runUnderlying22 Tryz.sizeOf55 (by omega) hrm (by omega)) (fun a hf => ?_)))))))))
 have hcs0 : 0 < cs.length := by rw [i1]; exact Nat.mul_pos (by omega) Flat.pos
 refine S.val hf hs (v := .bool false) rfl rfl rfl (V.externS Tryz.func96 (by kernel_rfl) (by kernel_rfl) (by kernel_rfl) (by kernel_rfl) rfl rfl rfl (fun w hs => overlaps_no (B := 4) hs Tryz.underlying22 hszE hm0 hcs0)) (fun a hf => S.val hf hs (v := .bool true) rfl rfl rfl (V.pure rfl) (fun a hf => R.nil (X.then_ (C.yes hf rfl (wp_seq (H.start (S := Sat w0 F0 [hown 55 v_A v_C v_]) mo ?_))))))
 replace hs := hs.drew
 refine H.val hf (hs.mask [false, true]) (v := .slice (some ⟨g1, 0, none⟩) (s_.length + v_.length) s_C) (i := 0) rfl rfl rfl rfl (by kernel_rfl) (by kernel_rfl) (by kernel_rfl) (V.pure rfl) (fun a hf => H.val hf (hs.mask [false, true]) (v := .int .i64 (k : Int)) (i := 1) rfl rfl rfl rfl (by kernel_rfl) (by kernel_rfl) (by kernel_rfl) (V.pure rfl) (fun a hf => H.val hf (hs.mask [false, true]) (v := .int .i64 (v_.length : Int)) (i := 2) rfl rfl rfl rfl (by kernel_rfl) (by kernel_rfl) (by kernel_rfl) (V.pure rfl) (fun a hf => H.val hf (hs.mask [false, true]) (v := .int .i64 ((k + v_.length : Nat) : Int)) (i := 3) rfl rfl rfl rfl (by kernel_rfl) (by kernel_rfl) (by kernel_rfl) (V.addNat rfl rfl rfl rfl (by omega)) (fun a hf => H.val hf (hs.mask [false, true]) (v := .slice (some ⟨g1, 0 + (k + v_.length) * 3, none⟩) (s_.length + v_.length - (k + v_.length)) (s_C - (k + v_.length))) (i := 4) rfl rfl rfl rfl (by kernel_rfl) (by kernel_rfl) (by kernel_rfl) (V.sliceFrom rfl rfl rfl Tryz.runUnderlying22 Tryz.sizeOf55 (by omega) hrm (by omega)) (fun a hf => H.val hf (hs.mask [false, true]) (v := .slice (some ⟨g1, 0, none⟩) (s_.length + v_.length) s_C) (i := 5) rfl rfl rfl rfl (by kernel_rfl) (by kernel_rfl) (by kernel_rfl) (V.pure rfl) (fun a hf => H.val hf (hs.mask [false, true]) (v := .int .i64 (k : Int)) (i := 6) rfl rfl rfl rfl (by kernel_rfl) (by kernel_rfl) (by kernel_rfl) (V.pure rfl) (fun a hf => H.val hf (hs.mask [false, true]) (v := .slice (some ⟨g1, 0 + k * 3, none⟩) (s_.length + v_.length - k) (s_C - k)) (i := 7) rfl rfl rfl rfl (by kernel_rfl) (by kernel_rfl) (by kernel_rfl) (V.sliceFrom rfl rfl rfl Tryz.runUnderlying22 Tryz.sizeOf55 (by omega) hrm (by omega)) (fun a hf => ?_))))))))
 refine H.one (i := 8) rfl (by kernel_rfl) ?_
 have hfit1 : 0 + (k + v_.length) * 3 + (s_.drop k).length * Flat.sz Cell ≤ cs.length := by rw [i1]; show 0 + (k + v_.length) * Flat.sz Cell + _ ≤ _; rw [Nat.zero_add, ← Nat.add_mul, List.length_drop]; exact Nat.mul_le_mul_right _ (by omega)
 refine S.copyRaw 0 hf hs rfl rfl rfl rfl rfl rfl rfl Tryz.underlying22 hszE (s_.drop k) rfl (hs.rawView 0 rfl (0 + k * 3) (s_C - k) (s_.drop k) (shift_src hkn i4) (by rw [List.length_drop]; omega) (by omega)) (by rw [List.length_drop]; omega) hfit1 (fun a w hf hs => R.nil (X.then_ (⟨(hs.mask [false, true]), (H.done (by kernel_rfl) (X.then_ ?_))⟩)))
 have hlc1 : (cs.take (0 + (k + v_.length) * 3) ++ (s_.drop k).flatMap Flat.enc ++ cs.drop (0 + (k + v_.length) * 3 + (s_.drop k).length * Flat.sz Cell)).length = s_C * Flat.sz Cell := by rw [← i1]; simp only [List.length_append, List.length_take, List.length_drop, length_flatMap_enc] at hfit1 ⊢; omega
 refine wp_seq (R.list (S.val hf hs (v := .slice (some ⟨g1, 0, none⟩) (s_.length + v_.length) s_C) rfl rfl rfl (V.pure rfl) (fun a hf => S.val hf hs (v := .int .i64 (k : Int)) rfl rfl rfl (V.pure rfl) (fun a hf => S.val hf hs (v := .slice (some ⟨g1, 0 + k * 3, none⟩) (s_.length + v_.length - k) (s_C - k)) rfl rfl rfl (V.sliceFrom rfl rfl rfl Tryz.runUnderlying22 Tryz.sizeOf55 (by omega) hrm (by omega)) (fun a hf => S.val hf hs (v := .slice v_A v_.length v_C) rfl rfl rfl (V.pure rfl) (fun a hf => ?_))))))
 have hfit2 : 0 + k * 3 + v_.length * Flat.sz Cell ≤ (cs.take (0 + (k + v_.length) * 3) ++ (s_.drop k).flatMap Flat.enc ++ cs.drop (0 + (k + v_.length) * 3 + (s_.drop k).length * Flat.sz Cell)).length := by rw [hlc1]; show 0 + k * Flat.sz Cell + _ ≤ _; rw [Nat.zero_add, ← Nat.add_mul]; exact Nat.mul_le_mul_right _ (by omega)
 refine S.copyRaw 0 hf hs rfl rfl rfl rfl rfl rfl rfl Tryz.underlying22 hszE v_ (hs.ownSome 1 rfl hm0) (hs.ownView 1 rfl) (by omega) hfit2 (fun a w hf hs => R.nil (X.then_ (wp_seq (R.list (S.val hf hs (v := .slice (some ⟨g1, 0, none⟩) (s_.length + v_.length) s_C) rfl rfl rfl (V.pure rfl) (fun a hf => S.val hf hs (v := .slice (some ⟨g1, 0, none⟩) (s_.length + v_.length) s_C) rfl rfl rfl (V.pure rfl) (fun a hf => R.nil (X.then_ (wp_ret (X.then_ret ?_))))))))))
 have hs2 := hs.ofRaw 0 rfl (C := s_C) (s_.take k ++ v_ ++ s_.drop k) (by have h9 := hfit2; rw [← hlc1]; generalize (cs.take (0 + (k + v_.length) * 3) ++ (s_.drop k).flatMap Flat.enc ++ cs.drop (0 + (k + v_.length) * 3 + (s_.drop k).length * Flat.sz Cell)) = D at h9 ⊢; rw [List.length_append, List.length_append, List.length_take, List.length_drop, length_flatMap_enc]; omega) (by simp only [List.length_append, List.length_take, List.length_drop]; omega) hCm (shift_cells hkn hfit1 hfit2 i4)
 have hlen : (s_.take k ++ v_ ++ s_.drop k).length = s_.length + v_.length := by simp only [List.length_append, List.length_take, List.length_drop]; omega
 exact L.ret hf (run_results1 Tryz.results77 (ResIs.tmp hf rfl)) ⟨s_.take k ++ v_ ++ s_.drop k, some ⟨g1, 0, none⟩, s_C, v_, rfl, by rw [hlen], hq, hs2⟩
def M_ref7_withBlocked_k4 (xk1 : Cell) (l2 : List Cell) (next1 : List Cell → Prop) (n2 : Int) (c2 : Bool) : Prop :=
  cnd c2 (M_insert_cell l2 n2 [xk1] fun y2 z1 => next1 y2) (next1 l2)
def M_ref7_withBlocked_k3 (xk1 : Cell) (l2 : List Cell) (next1 : List Cell → Prop) (n2 : Int) (again2 : Int → Prop) (c1 : Bool) : Prop :=
  cnd c1 (again2 (w64 (n2 - 1))) (cnd (n2 == 0) (M_ref7_withBlocked_k4 xk1 l2 next1 n2 true) (idx l2 (w64 (n2 - 1)) fun x1 => M_ref7_withBlocked_k4 xk1 l2 next1 n2 (!(decide (x1 = xk1)))))
def M_ref7_withBlocked_L2 (xk1 : Cell) (l2 : List Cell) (next1 : List Cell → Prop) (again2 : Int → Prop) (n2 : Int) : Prop :=
  cnd (decide (n2 > 0)) (idx l2 (w64 (n2 - 1)) fun x2 => M_ref7_before xk1 x2 fun y3 => M_ref7_withBlocked_k3 xk1 l2 next1 n2 again2 y3) (M_ref7_withBlocked_k3 xk1 l2 next1 n2 again2 false)
def M_ref7_withBlocked_L1  (k1 : Nat) (xk1 : Cell) (l2 : List Cell) (next1 : List Cell → Prop) : Prop :=
  lp (fun again (s : Int) => M_ref7_withBlocked_L2 xk1 l2 next1 (fun n2 => again n2) s) (l2.length : Int)
def M_ref7_withBlocked (g : Grid) (more : (List Cell)) (Q : Grid → Prop) : Prop :=
  M_clone_cell g.Blocked fun y1 => forIn' (fun k x (s : List Cell) next => M_ref7_withBlocked_L1 k x s (fun l2 => next l2)) (fun (s : List Cell) => (fun (l2 : List Cell) => Q (⟨g.W, g.H, g.Layers, l2⟩ : Grid)) s) more 0 y1
theorem R_ref7_withBlocked (g : Grid) (more : (List Cell)) (w0 : World) (g_BlockedA : Option Addr) (g_BlockedC : Nat) (hv_g_Blocked : View w0 (old w0 none_) g_BlockedA g_BlockedC g.Blocked) (moreA : Option Addr) (moreC : Nat) (hv_more : View w0 (old w0 none_) moreA moreC more) (Q : Grid → Prop) (h : M_ref7_withBlocked g more Q) :
  Ret Tryz.prog 35 #[.agg #[iv g.W, iv g.H, iv g.Layers, .slice g_BlockedA g.Blocked.length g_BlockedC], .slice moreA more.length moreC] w0 fun v w' => ∃ (r0 : Grid) (r0_BlockedA : Option Addr) (r0_BlockedC : Nat), v = .agg #[iv r0.W, iv r0.H, iv r0.Layers, .slice r0_BlockedA r0.Blocked.length r0_BlockedC] ∧ Q r0 ∧ Sat w0 none_ [hown 55 r0_BlockedA r0_BlockedC r0.Blocked] w' := by
 refine fn_enter Tryz.func35 rfl Tryz.ntmps35 rfl (fs := [(0, .agg #[iv g.W, iv g.H, iv g.Layers, .slice g_BlockedA g.Blocked.length g_BlockedC]), (1, .slice moreA more.length moreC)]) rfl (fun a hf => ?_)
 have hs := Sat.start w0 none_
 unfold M_ref7_withBlocked at h
 refine wp_seq (R.list (S.box hf hs rfl rfl rfl [iv g.W, iv g.H, iv g.Layers, .slice g_BlockedA g.Blocked.length g_BlockedC] rfl rfl rfl (fun g1 a w hf hs => S.alloc hf hs rfl rfl rfl [iv 0, iv 0, iv 0, .slice none 0 0] rfl Tryz.zeroValue24 rfl (fun g2 a w hf hs => R.nil (X.then_ (wp_seq (R.list (S.v hf hs ((pn g1 3)) rfl (V.fieldBox rfl rfl Tryz.runUnderlying24 rfl Tryz.sizeOf22 rfl rfl) fun a hf => S.v hf hs (.slice g_BlockedA g.Blocked.length g_BlockedC) rfl (V.loadBox 1 rfl rfl rfl Tryz.isAgg22 Tryz.sizeOf22 rfl rfl) fun a hf => S.call hf rfl rfl rfl (call_fn (vs := [.slice g_BlockedA g.Blocked.length g_BlockedC]) rfl rfl rfl Tryz.call75) (R_clone_cell g.Blocked _ g_BlockedA g_BlockedC ((Ag.args _ _ _).view hv_g_Blocked hs) _ h) (fun v a w' hf hr => ?_)))))))))
 obtain ⟨y1, y1A, y1C, rfl, h2, hs2⟩ := hr
 replace h := h2; replace hs := hs.call hs2; clear h2 hs2
 refine S.p hf hs (.slice y1A y1.length y1C) rfl rfl fun a hf => R.nil (X.then_ (wp_seq (wp_seq (R.list (S.p hf hs (.slice moreA more.length moreC) rfl rfl fun a hf => S.v hf hs (iv (more.length : Int)) rfl (V.len rfl rfl Tryz.runUnderlying22) fun a hf => S.p hf hs (iv 0) rfl rfl fun a hf => R.nil (X.then_ (wp_block ?_)))))))
 replace hs := hs.front 1 rfl
 replace hs := hs.front 2 rfl
 have hlenk1 := hv_more.len64
 refine C.range (fun (ll : List Cell) a w => ∃ (k1 : Nat) (l2 : List Cell) (l2A : Option Addr) (l2C : Nat), more.drop k1 = ll ∧ k1 + ll.length = more.length ∧ forIn' (fun k x (s : List Cell) next => M_ref7_withBlocked_L1 k x s (fun l2 => next l2)) (fun (s : List Cell) => (fun (l2 : List Cell) => Q (⟨g.W, g.H, g.Layers, l2⟩ : Grid)) s) ll k1 l2 ∧ FrOk 53 [(14, iv (k1 : Int)), (2, (pn g1 0)), (4, (pn g2 0)), (5, .slice l2A l2.length l2C), (12, .slice moreA more.length moreC), (13, iv (more.length : Int))] a ∧ Sat w0 none_ [hbox g1 24 [iv g.W, iv g.H, iv g.Layers, .slice g_BlockedA g.Blocked.length g_BlockedC], hbox g2 24 [iv 0, iv 0, iv 0, .slice none 0 0], hown 55 l2A l2C l2] w) more ⟨0, y1, y1A, y1C, rfl, Nat.zero_add _, h, ((((((hf.nil.cons (hf.get 13 _ rfl)).cons (hf.get 12 _ rfl)).cons (hf.get 5 _ rfl)).cons (hf.get 4 _ rfl)).cons (hf.get 2 _ rfl)).cons (hf.get 14 _ rfl)), hs⟩ ?_
 clear h hf hs
 rintro llk1 a w ⟨k1, l2, l2A, l2C, hlk1, hkk1, h, hf, hs⟩
 cases llk1 with
 | nil =>
  have hc := range_done hkk1
  replace h : (fun (l2 : List Cell) => Q (⟨g.W, g.H, g.Layers, l2⟩ : Grid)) l2 := h
  refine wp_seq (R.list (S.v hf hs (.bool false) rfl (V.cmp false rfl rfl rfl rfl hc) fun a hf => R.nil (X.then_ (wp_seq (C.no hf rfl (wp_exit (X.then_exit (X.then_exit (X.blk_exit (X.then_ (wp_seq (R.list (S.p hf hs (.slice l2A l2.length l2C) rfl rfl fun a hf => S.v hf hs ((pn g1 3)) rfl (V.fieldBox rfl rfl Tryz.runUnderlying24 rfl Tryz.sizeOf22 rfl rfl) fun a hf => S.storeBox 0 hf hs rfl rfl [.slice l2A l2.length l2C] [iv g.W, iv g.H, iv g.Layers, .slice l2A l2.length l2C] rfl rfl rfl rfl rfl Tryz.sizeOf22 rfl rfl rfl rfl (fun a w hf hs => ?_))))))))))))))
  refine R.nil (X.then_ (wp_seq (R.list (S.v hf hs (.agg #[iv g.W, iv g.H, iv g.Layers, .slice l2A l2.length l2C]) rfl (V.loadBox 0 rfl rfl rfl Tryz.isAgg24 Tryz.sizeOf24 rfl rfl) fun a hf => S.storeBox 1 hf hs rfl rfl [iv g.W, iv g.H, iv g.Layers, .slice l2A l2.length l2C] [iv g.W, iv g.H, iv g.Layers, .slice l2A l2.length l2C] rfl rfl rfl rfl rfl Tryz.sizeOf24 rfl rfl rfl rfl (fun a w hf hs => R.nil (X.then_ (wp_ret ?_)))))))
  have hsR := hs
  replace hs := hs.front 2 rfl
  replace hs := hs.take 1
  exact L.ret hf (run_results1 Tryz.results35 (ResIs.box hf hsR 1 rfl rfl Tryz.isAgg24 Tryz.sizeOf24 rfl rfl)) ⟨(⟨g.W, g.H, g.Layers, l2⟩ : Grid), l2A, l2C, rfl, h, hs⟩
 | cons xk1 llk1 =>
  have hltk1 := range_lt hkk1; have hc := range_go hkk1; have hxk1 := range_get hlk1
  obtain ⟨next1, hnext1⟩ : ∃ X : List Cell → Prop, X = (fun l2 => forIn' (fun k x (s : List Cell) next => M_ref7_withBlocked_L1 k x s (fun l2 => next l2)) (fun (s : List Cell) => (fun (l2 : List Cell) => Q (⟨g.W, g.H, g.Layers, l2⟩ : Grid)) s) llk1 (k1 + 1) l2) := ⟨_, rfl⟩
  replace h : M_ref7_withBlocked_L1 k1 xk1 l2 next1 := by rw [hnext1]; exact h
  unfold M_ref7_withBlocked_L1 at h
  refine wp_seq (R.list (S.v hf hs (.bool true) rfl (V.cmp true rfl rfl rfl rfl hc) fun a hf => R.nil (X.then_ (wp_seq (C.yes hf rfl (wp_skip (X.then_ (wp_seq (wp_block (wp_seq (R.list (S.v hf hs (elemPtr moreA (k1 * 3)) rfl (V.index rfl rfl rfl Tryz.runUnderlying22 Tryz.sizeOf55 (hv_more.some_ (lt_of_get hxk1)) (Int.natCast_nonneg _) (lt_of_get hxk1) rfl) fun a hf => S.v hf hs (.agg #[iv xk1.X, iv xk1.Y, iv xk1.Layer]) rfl (V.loadEl (off := 0) (Ag.args _ _ _) (hv_more.flat hxk1) rfl rfl rfl Tryz.isAgg55 Tryz.sizeOf55 rfl rfl) fun a hf => S.alloc hf hs rfl rfl rfl [iv 0, iv 0, iv 0] rfl Tryz.zeroValue55 rfl (fun g3 a w hf hs => ?_)))))))))))))
  refine S.storeBox 0 hf hs rfl rfl [iv xk1.X, iv xk1.Y, iv xk1.Layer] [iv xk1.X, iv xk1.Y, iv xk1.Layer] rfl rfl rfl rfl rfl Tryz.sizeOf55 rfl rfl rfl rfl (fun a w hf hs => R.nil (X.then_ (wp_seq (R.list (S.p hf hs (.slice l2A l2.length l2C) rfl rfl fun a hf => S.v hf hs (iv (l2.length : Int)) rfl (V.len rfl rfl Tryz.runUnderlying22) fun a hf => S.p hf hs (iv (l2.length : Int)) rfl rfl fun a hf => R.nil (X.then_ (wp_seq (wp_block ?_))))))))
  obtain ⟨kk, h⟩ := h
  refine C.loop (fun kk a w => ∃ (n2 : Int), iterF (fun again (s : Int) => M_ref7_withBlocked_L2 xk1 l2 next1 (fun n2 => again n2) s) kk n2 ∧ FrOk 53 [(2, (pn g1 0)), (4, (pn g2 0)), (5, .slice l2A l2.length l2C), (7, (pn g3 0)), (8, iv n2), (12, .slice moreA more.length moreC), (13, iv (more.length : Int)), (14, iv (k1 : Int))] a ∧ Sat w0 none_ [hbox g3 55 [iv xk1.X, iv xk1.Y, iv xk1.Layer], hbox g1 24 [iv g.W, iv g.H, iv g.Layers, .slice g_BlockedA g.Blocked.length g_BlockedC], hbox g2 24 [iv 0, iv 0, iv 0, .slice none 0 0], hown 55 l2A l2C l2] w) kk ⟨(l2.length : Int), h, ((((((((hf.nil.cons (hf.get 14 _ rfl)).cons (hf.get 13 _ rfl)).cons (hf.get 12 _ rfl)).cons (hf.get 8 _ rfl)).cons (hf.get 7 _ rfl)).cons (hf.get 5 _ rfl)).cons (hf.get 4 _ rfl)).cons (hf.get 2 _ rfl)), hs⟩ (fun a w ⟨_, h, _, _⟩ => h) ?_
  clear h hf hs
  rintro kk a w ⟨n2, h, hf, hs⟩
  obtain ⟨again2, hagain2⟩ : ∃ X : Int → Prop, X = (fun n2 => iterF (fun again (s : Int) => M_ref7_withBlocked_L2 xk1 l2 next1 (fun n2 => again n2) s) kk n2) := ⟨_, rfl⟩
  replace h : M_ref7_withBlocked_L2 xk1 l2 next1 again2 n2 := by rw [hagain2]; exact h
  unfold M_ref7_withBlocked_L2 at h
  refine wp_seq (wp_seq ?_)
  refine C.cut (J := fun a w => ∃ (c1 : Bool), M_ref7_withBlocked_k3 xk1 l2 next1 n2 again2 c1 ∧ FrOk 53 [(2, (pn g1 0)), (4, (pn g2 0)), (5, .slice l2A l2.length l2C), (7, (pn g3 0)), (8, iv n2), (12, .slice moreA more.length moreC), (13, iv (more.length : Int)), (14, iv (k1 : Int)), (30, .bool c1)] a ∧ Sat w0 none_ [hbox g3 55 [iv xk1.X, iv xk1.Y, iv xk1.Layer], hbox g1 24 [iv g.W, iv g.H, iv g.Layers, .slice g_BlockedA g.Blocked.length g_BlockedC], hbox g2 24 [iv 0, iv 0, iv 0, .slice none 0 0], hown 55 l2A l2C l2] w) ?_ ?_
  ·rintro a w ⟨c1, h, hf, hs⟩
   unfold M_ref7_withBlocked_k3 at h
   refine C.cond hf (b := c1) rfl (fun hc => ?_) (fun hc => ?_)
   ·replace h := h.1 hc
    refine wp_skip (X.then_ (wp_block (R.list (S.p hf hs (iv n2) rfl rfl fun a hf => S.p hf hs (iv (w64 (n2 - 1))) rfl rfl fun a hf => S.p hf hs (iv (w64 (n2 - 1))) rfl rfl fun a hf => R.nil (X.blk (X.then_ ?_))))))
    exact ⟨(w64 (n2 - 1)), (by rw [hagain2] at h; exact h), ((((((((hf.nil.cons (hf.get 14 _ rfl)).cons (hf.get 13 _ rfl)).cons (hf.get 12 _ rfl)).cons (hf.get 8 _ rfl)).cons (hf.get 7 _ rfl)).cons (hf.get 5 _ rfl)).cons (hf.get 4 _ rfl)).cons (hf.get 2 _ rfl)), hs⟩
   ·replace h := h.2 hc
    refine wp_exit (X.then_exit (X.then_exit (X.blk_exit (X.then_ (wp_seq ?_)))))
    refine C.cut (J := fun a w => ∃ (c2 : Bool), M_ref7_withBlocked_k4 xk1 l2 next1 n2 c2 ∧ FrOk 53 [(2, (pn g1 0)), (4, (pn g2 0)), (5, .slice l2A l2.length l2C), (7, (pn g3 0)), (8, iv n2), (12, .slice moreA more.length moreC), (13, iv (more.length : Int)), (14, iv (k1 : Int)), (43, .bool c2)] a ∧ Sat w0 none_ [hbox g3 55 [iv xk1.X, iv xk1.Y, iv xk1.Layer], hbox g1 24 [iv g.W, iv g.H, iv g.Layers, .slice g_BlockedA g.Blocked.length g_BlockedC], hbox g2 24 [iv 0, iv 0, iv 0, .slice none 0 0], hown 55 l2A l2C l2] w) ?_ ?_
    ·rintro a w ⟨c2, h, hf, hs⟩
     unfold M_ref7_withBlocked_k4 at h
     refine C.cond hf (b := c2) rfl (fun hc => ?_) (fun hc => ?_)
     ·replace h := h.1 hc
      refine R.list (S.p hf hs (.slice l2A l2.length l2C) rfl rfl fun a hf => S.p hf hs (iv n2) rfl rfl fun a hf => S.v hf hs (.agg #[iv xk1.X, iv xk1.Y, iv xk1.Layer]) rfl (V.loadBox 0 rfl rfl rfl Tryz.isAgg55 Tryz.sizeOf55 rfl rfl) fun a hf => S.build1 hf hs rfl rfl rfl (α := Cell) xk1 rfl rfl rfl Tryz.runUnderlying22 Tryz.sizeOf55 Tryz.zeroValue55 rfl (by decide) (fun A1 a w hf hs => ?_))
      replace hs := hs.front 4 rfl
      obtain ⟨F1, hsF, hback, hold, hrest⟩ := Sat.callOwns [hown 55 l2A l2C l2, hown 55 A1 1 [xk1]] (σ := [hbox g3 55 [iv xk1.X, iv xk1.Y, iv xk1.Layer], hbox g1 24 [iv g.W, iv g.H, iv g.Layers, .slice g_BlockedA g.Blocked.length g_BlockedC], hbox g2 24 [iv 0, iv 0, iv 0, .slice none 0 0]]) hs
      refine S.call hf rfl rfl rfl (call_fn (vs := [.slice l2A l2.length l2C, iv n2, .slice A1 [xk1].length 1]) rfl rfl rfl Tryz.call77) (R_insert_cell l2 n2 [xk1] _ _ l2A l2C A1 1 hsF _ h) (fun v a w' hf hr => ?_)
      obtain ⟨y2, y2A, y2C, z1, hl_z1, rfl, h2, hs2⟩ := hr
      replace h := h2; replace hs := hback _ _ hs2; clear h2 hs2 hback hold hrest hsF
      replace hf := hf.tell 47 (v := .slice A1 z1.length 1) ((hf.get 47 (.slice A1 [xk1].length 1) rfl).trans (congrArg (fun n => Value.slice A1 n 1) hl_z1.symm))
      refine S.p hf hs (.slice y2A y2.length y2C) rfl rfl fun a hf => R.nil (X.blk (X.then_ (R.list (S.v hf hs (iv ((k1 + 1 : Nat) : Int)) rfl (V.incr rfl rfl rfl hltk1 hlenk1) fun a hf => S.p hf hs (iv ((k1 + 1 : Nat) : Int)) rfl rfl fun a hf => R.nil (X.then_ ?_)))))
      replace hs := hs.front 4 rfl
      replace hs := hs.front 4 rfl
      replace hs := hs.take 3
      exact ⟨xk1, llk1, rfl, k1 + 1, y2, y2A, y2C, range_drop hlk1, range_len hkk1, (by rw [hnext1] at h; exact h), ((((((hf.nil.cons (hf.get 13 _ rfl)).cons (hf.get 12 _ rfl)).cons (hf.get 5 _ rfl)).cons (hf.get 4 _ rfl)).cons (hf.get 2 _ rfl)).cons (hf.get 14 _ rfl)), hs⟩
     ·replace h := h.2 hc
      refine wp_skip (X.blk (X.then_ (R.list (S.v hf hs (iv ((k1 + 1 : Nat) : Int)) rfl (V.incr rfl rfl rfl hltk1 hlenk1) fun a hf => S.p hf hs (iv ((k1 + 1 : Nat) : Int)) rfl rfl fun a hf => R.nil (X.then_ ?_)))))
      replace hs := hs.front 3 rfl
      replace hs := hs.front 3 rfl
      replace hs := hs.front 3 rfl
      replace hs := hs.take 3
      exact ⟨xk1, llk1, rfl, k1 + 1, l2, l2A, l2C, range_drop hlk1, range_len hkk1, (by rw [hnext1] at h; exact h), ((((((hf.nil.cons (hf.get 13 _ rfl)).cons (hf.get 12 _ rfl)).cons (hf.get 5 _ rfl)).cons (hf.get 4 _ rfl)).cons (hf.get 2 _ rfl)).cons (hf.get 14 _ rfl)), hs⟩
    ·skip
     refine R.draw mo (by kernel_rfl) hs (D.p hf (iv n2) rfl rfl fun a hf => D.p hf (.bool (n2 == 0)) rfl rfl fun a hf => ?_)
     refine D.split hf (b := n2 == 0) rfl rfl rfl (V.pure rfl) (fun hc a hf => ?_) (fun hc a hf => ?_)
     ·replace h := h.1 hc
      refine D.k hf rfl fun a hf => D.k hf rfl fun a hf => D.k hf rfl fun a hf => D.k hf rfl fun a hf => D.k hf rfl fun a hf => D.k hf rfl fun a hf => D.k hf rfl fun a hf => D.p hf (.bool true) rfl rfl fun a hf => ?_
      refine D.done (fun w hs => X.then_ ?_)
      exact ⟨true, h, (((((((((hf.nil.cons (hf.get 43 _ rfl)).cons (hf.get 14 _ rfl)).cons (hf.get 13 _ rfl)).cons (hf.get 12 _ rfl)).cons (hf.get 8 _ rfl)).cons (hf.get 7 _ rfl)).cons (hf.get 5 _ rfl)).cons (hf.get 4 _ rfl)).cons (hf.get 2 _ rfl)), hs⟩
     ·replace h := h.2 hc
      refine D.p hf (.slice l2A l2.length l2C) rfl rfl fun a hf => D.p hf (iv n2) rfl rfl fun a hf => D.p hf (iv (w64 (n2 - 1))) rfl rfl fun a hf => ?_
      obtain ⟨h0x1, x1, hx1, h⟩ := h
      refine D.v hf (elemPtr l2A ((w64 (n2 - 1)).toNat * 3)) rfl (V.index rfl rfl rfl Tryz.runUnderlying22 Tryz.sizeOf55 (hs.ownSome 3 rfl (lt_of_get hx1)) h0x1 (lt_of_get hx1) rfl) fun a hf => D.v hf (.agg #[iv x1.X, iv x1.Y, iv x1.Layer]) rfl (V.loadOwn (off := 0) 3 rfl hx1 rfl rfl rfl Tryz.isAgg55 Tryz.sizeOf55 rfl rfl) fun a hf => D.v hf (.agg #[iv xk1.X, iv xk1.Y, iv xk1.Layer]) rfl (V.loadBox 0 rfl rfl rfl Tryz.isAgg55 Tryz.sizeOf55 rfl rfl) fun a hf => D.v hf (.bool (!(decide (x1 = xk1)))) rfl (V.aggneq rfl rfl rfl (by kernel_rfl) (fun w => eqS55 x1 xk1 w)) fun a hf => D.p hf (.bool (!(decide (x1 = xk1)))) rfl rfl fun a hf => D.done (fun w hs => X.then_ ?_)
      exact ⟨(!(decide (x1 = xk1))), h, (((((((((hf.nil.cons (hf.get 43 _ rfl)).cons (hf.get 14 _ rfl)).cons (hf.get 13 _ rfl)).cons (hf.get 12 _ rfl)).cons (hf.get 8 _ rfl)).cons (hf.get 7 _ rfl)).cons (hf.get 5 _ rfl)).cons (hf.get 4 _ rfl)).cons (hf.get 2 _ rfl)), hs⟩
  ·skip
   refine H.start (S := Sat w0 none_ [hbox g3 55 [iv xk1.X, iv xk1.Y, iv xk1.Layer], hbox g1 24 [iv g.W, iv g.H, iv g.Layers, .slice g_BlockedA g.Blocked.length g_BlockedC], hbox g2 24 [iv 0, iv 0, iv 0, .slice none 0 0], hown 55 l2A l2C l2]) mo ?_
   replace hs := hs.drew
   refine H.v hf hs (iv n2) 0 rfl rfl (by kernel_rfl) (V.pure rfl) fun a hf => H.v hf hs (.bool (decide (n2 > 0))) 1 rfl rfl (by kernel_rfl) (V.pure rfl) fun a hf => ?_
   refine H.split hf hs (b := decide (n2 > 0)) (i := 2) rfl rfl rfl rfl (by kernel_rfl) (by kernel_rfl) (by kernel_rfl) (V.pure rfl) (fun hc a hf => ?_) (fun hc a hf => ?_)
   ·replace h := h.1 hc
    refine H.v hf hs (.agg #[iv xk1.X, iv xk1.Y, iv xk1.Layer]) 3 rfl rfl (by kernel_rfl) (V.loadBox 0 rfl rfl rfl Tryz.isAgg55 Tryz.sizeOf55 rfl rfl) fun a hf => H.v hf hs (.slice l2A l2.length l2C) 4 rfl rfl (by kernel_rfl) (V.pure rfl) fun a hf => H.v hf hs (iv n2) 5 rfl rfl (by kernel_rfl) (V.pure rfl) fun a hf => H.v hf hs (iv (w64 (n2 - 1))) 6 rfl rfl (by kernel_rfl) (V.pure rfl) fun a hf => ?_
    obtain ⟨h0x2, x2, hx2, h⟩ := h
    refine H.v hf hs (elemPtr l2A ((w64 (n2 - 1)).toNat * 3)) 7 rfl rfl (by kernel_rfl) (V.index rfl rfl rfl Tryz.runUnderlying22 Tryz.sizeOf55 (hs.ownSome 3 rfl (lt_of_get hx2)) h0x2 (lt_of_get hx2) rfl) fun a hf => H.v hf hs (.agg #[iv x2.X, iv x2.Y, iv x2.Layer]) 8 rfl rfl (by kernel_rfl) (V.loadOwn (off := 0) 3 rfl hx2 rfl rfl rfl Tryz.isAgg55 Tryz.sizeOf55 rfl rfl) fun a hf => H.one (i := 9) rfl (by kernel_rfl) (S.call hf rfl rfl rfl (call_fn (vs := [.agg #[iv xk1.X, iv xk1.Y, iv xk1.Layer], .agg #[iv x2.X, iv x2.Y, iv x2.Layer]]) rfl rfl rfl Tryz.call76) (R_ref7_before xk1 x2 _  _ h) (fun v a w' hf hr => ?_))
    obtain ⟨y3, rfl, h2, hs2⟩ := hr
    replace h := h2; replace hs := hs.call hs2; clear h2 hs2
    refine R.nil (X.then_ (⟨hs, (H.v hf hs (.bool y3) 10 rfl rfl (by kernel_rfl) (V.pure rfl) fun a hf => H.done (by kernel_rfl) (X.then_ ?_))⟩))
    exact ⟨y3, h, (((((((((hf.nil.cons (hf.get 30 _ rfl)).cons (hf.get 14 _ rfl)).cons (hf.get 13 _ rfl)).cons (hf.get 12 _ rfl)).cons (hf.get 8 _ rfl)).cons (hf.get 7 _ rfl)).cons (hf.get 5 _ rfl)).cons (hf.get 4 _ rfl)).cons (hf.get 2 _ rfl)), hs⟩
   ·replace h := h.2 hc
    refine H.k hf hs 3 rfl rfl (by kernel_rfl) fun a hf => H.k hf hs 4 rfl rfl (by kernel_rfl) fun a hf => H.k hf hs 5 rfl rfl (by kernel_rfl) fun a hf => H.k hf hs 6 rfl rfl (by kernel_rfl) fun a hf => H.k hf hs 7 rfl rfl (by kernel_rfl) fun a hf => H.k hf hs 8 rfl rfl (by kernel_rfl) fun a hf => H.one (i := 9) rfl (by kernel_rfl) (S.k hf rfl fun a hf => ?_)
    refine R.nil (X.then_ (⟨hs, (H.v hf hs (.bool false) 10 rfl rfl (by kernel_rfl) (V.pure rfl) fun a hf => H.done (by kernel_rfl) (X.then_ ?_))⟩))
    exact ⟨false, h, (((((((((hf.nil.cons (hf.get 30 _ rfl)).cons (hf.get 14 _ rfl)).cons (hf.get 13 _ rfl)).cons (hf.get 12 _ rfl)).cons (hf.get 8 _ rfl)).cons (hf.get 7 _ rfl)).cons (hf.get 5 _ rfl)).cons (hf.get 4 _ rfl)).cons (hf.get 2 _ rfl)), hs⟩
def M_ref7_Blocked_L1 (t : (List Task)) (k1 : Nat) (xk1 : Routed) (l2 : List Cell) (next1 : List Cell → Prop) : Prop :=
  M_ref7_cellsOf t xk1 fun y3 => must (room (l2 ++ y3).length 24) (next1 (l2 ++ y3))
def M_ref7_Blocked (g : Grid) (t : (List Task)) (r : (List Routed)) (Q : Grid → Int → Prop) : Prop :=
  M_ref7_CheckRouted g t r fun y1 => cnd (y1 != 0) (Q (⟨0, 0, 0, ([] : List Cell)⟩ : Grid) y1) (forIn' (fun k x (s : List Cell) next => M_ref7_Blocked_L1 t k x s (fun l2 => next l2)) (fun (s : List Cell) => (fun (l2 : List Cell) => M_ref7_withBlocked g l2 fun y2 => Q y2 0) s) r 0 ([] : List Cell))
theorem R_ref7_Blocked (g : Grid) (t : (List Task)) (r : (List Routed)) (w0 : World) (g_BlockedA : Option Addr) (g_BlockedC : Nat) (hv_g_Blocked : View w0 (old w0 none_) g_BlockedA g_BlockedC g.Blocked) (tA : Option Addr) (tC : Nat) (hv_t : View w0 (old w0 none_) tA tC t) (rA : Option Addr) (rC : Nat) (hv_r : View w0 (old w0 none_) rA rC r) (Q : Grid → Int → Prop) (h : M_ref7_Blocked g t r Q) :
  Ret Tryz.prog 11 #[.agg #[iv g.W, iv g.H, iv g.Layers, .slice g_BlockedA g.Blocked.length g_BlockedC], .slice tA t.length tC, .slice rA r.length rC] w0 fun v w' => ∃ (r0 : Grid) (r0_BlockedA : Option Addr) (r0_BlockedC : Nat) (r1 : Int), v = .tuple #[.agg #[iv r0.W, iv r0.H, iv r0.Layers, .slice r0_BlockedA r0.Blocked.length r0_BlockedC], iv r1] ∧ Q r0 r1 ∧ Sat w0 none_ [hown 55 r0_BlockedA r0_BlockedC r0.Blocked] w' := by
 refine fn_enter Tryz.func11 rfl Tryz.ntmps11 rfl (fs := [(0, .agg #[iv g.W, iv g.H, iv g.Layers, .slice g_BlockedA g.Blocked.length g_BlockedC]), (1, .slice tA t.length tC), (2, .slice rA r.length rC)]) rfl (fun a hf => ?_)
 have hs := Sat.start w0 none_
 unfold M_ref7_Blocked at h
 refine wp_seq (R.list (S.box hf hs rfl rfl rfl [iv g.W, iv g.H, iv g.Layers, .slice g_BlockedA g.Blocked.length g_BlockedC] rfl rfl rfl (fun g1 a w hf hs => S.alloc hf hs rfl rfl rfl [iv 0, iv 0, iv 0, .slice none 0 0] rfl Tryz.zeroValue24 rfl (fun g2 a w hf hs => S.p hf hs (iv 0) rfl rfl fun a hf => R.nil (X.then_ (wp_seq (wp_seq (R.list (S.v hf hs (.agg #[iv g.W, iv g.H, iv g.Layers, .slice g_BlockedA g.Blocked.length g_BlockedC]) rfl (V.loadBox 1 rfl rfl rfl Tryz.isAgg24 Tryz.sizeOf24 rfl rfl) fun a hf => S.p hf hs (.slice tA t.length tC) rfl rfl fun a hf => S.p hf hs (.slice rA r.length rC) rfl rfl fun a hf => ?_)))))))))
 refine S.call hf rfl rfl rfl (call_fn (vs := [.agg #[iv g.W, iv g.H, iv g.Layers, .slice g_BlockedA g.Blocked.length g_BlockedC], .slice tA t.length tC, .slice rA r.length rC]) rfl rfl rfl Tryz.call9) (R_ref7_CheckRouted g t r _ g_BlockedA g_BlockedC ((Ag.args _ _ _).view hv_g_Blocked hs) tA tC ((Ag.args _ _ _).view hv_t hs) rA rC ((Ag.args _ _ _).view hv_r hs) _ h) (fun v a w' hf hr => ?_)
 obtain ⟨y1, rfl, h2, hs2⟩ := hr
 replace h := h2; replace hs := hs.call hs2; clear h2 hs2
 refine S.p hf hs (iv y1) rfl rfl fun a hf => R.nil (X.then_ (wp_seq (R.list (S.p hf hs (iv y1) rfl rfl fun a hf => S.p hf hs (.bool (y1 != 0)) rfl rfl fun a hf => R.nil (X.then_ ?_)))))
 refine C.cond hf (b := y1 != 0) rfl (fun hc => ?_) (fun hc => ?_)
 ·replace h := h.1 hc
  refine wp_seq (R.list (S.v hf hs (.agg #[iv 0, iv 0, iv 0, .slice none 0 0]) rfl (V.build (places := #[(0, 1), (1, 1), (2, 1), (3, 1)]) rfl Tryz.zeroValue24 Tryz.runUnderlying24 (by intro w; simp [Tryz.sizeOf22, Tryz.sizeOf3]) rfl rfl) fun a hf => S.p hf hs (iv y1) rfl rfl fun a hf => S.storeBox 0 hf hs rfl rfl [iv 0, iv 0, iv 0, .slice none 0 0] [iv 0, iv 0, iv 0, .slice none 0 0] rfl rfl rfl rfl rfl Tryz.sizeOf24 rfl rfl rfl rfl (fun a w hf hs => S.p hf hs (iv y1) rfl rfl fun a hf => R.nil (X.then_ (wp_ret (X.then_ret ?_))))))
  have hsR := hs
  replace hs := hs.nilOwn (α := Cell) 55
  replace hs := hs.take 1
  exact L.ret hf (run_results2 Tryz.results11 (ResIs.box hf hsR 0 rfl rfl Tryz.isAgg24 Tryz.sizeOf24 rfl rfl) (ResIs.tmp hf rfl)) ⟨(⟨0, 0, 0, ([] : List Cell)⟩ : Grid), none, 0, y1, rfl, h, hs⟩
 ·replace h := h.2 hc
  refine wp_skip (X.then_ (wp_seq (R.list (S.p hf hs (.slice none 0 0) rfl rfl fun a hf => R.nil (X.then_ (wp_seq (wp_seq (R.list (S.p hf hs (.slice rA r.length rC) rfl rfl fun a hf => S.v hf hs (iv (r.length : Int)) rfl (V.len rfl rfl Tryz.runUnderlying28) fun a hf => S.p hf hs (iv 0) rfl rfl fun a hf => R.nil (X.then_ (wp_block ?_)))))))))))
  replace hs := hs.nilOwn (α := Cell) 55
  have hlenk1 := hv_r.len64
  refine C.range (fun (ll : List Routed) a w => ∃ (k1 : Nat) (l2 : List Cell) (l2A : Option Addr) (l2C : Nat), r.drop k1 = ll ∧ k1 + ll.length = r.length ∧ forIn' (fun k x (s : List Cell) next => M_ref7_Blocked_L1 t k x s (fun l2 => next l2)) (fun (s : List Cell) => (fun (l2 : List Cell) => M_ref7_withBlocked g l2 fun y2 => Q y2 0) s) ll k1 l2 ∧ FrOk 35 [(22, iv (k1 : Int)), (1, .slice tA t.length tC), (3, (pn g1 0)), (6, (pn g2 0)), (9, .slice l2A l2.length l2C), (20, .slice rA r.length rC), (21, iv (r.length : Int))] a ∧ Sat w0 none_ [hown 55 l2A l2C l2, hbox g2 24 [iv 0, iv 0, iv 0, .slice none 0 0], hbox g1 24 [iv g.W, iv g.H, iv g.Layers, .slice g_BlockedA g.Blocked.length g_BlockedC]] w) r ⟨0, ([] : List Cell), none, 0, rfl, Nat.zero_add _, h, (((((((hf.nil.cons (hf.get 21 _ rfl)).cons (hf.get 20 _ rfl)).cons (hf.get 9 _ rfl)).cons (hf.get 6 _ rfl)).cons (hf.get 3 _ rfl)).cons (hf.get 1 _ rfl)).cons (hf.get 22 _ rfl)), hs⟩ ?_
  clear h hf hs
  rintro llk1 a w ⟨k1, l2, l2A, l2C, hlk1, hkk1, h, hf, hs⟩
  cases llk1 with
  | nil =>
   have hc := range_done hkk1
   replace h : (fun (l2 : List Cell) => M_ref7_withBlocked g l2 fun y2 => Q y2 0) l2 := h
   refine wp_seq (R.list (S.v hf hs (.bool false) rfl (V.cmp false rfl rfl rfl rfl hc) fun a hf => R.nil (X.then_ (wp_seq (C.no hf rfl (wp_exit (X.then_exit (X.then_exit (X.blk_exit (X.then_ (wp_seq (R.list (S.v hf hs (.agg #[iv g.W, iv g.H, iv g.Layers, .slice g_BlockedA g.Blocked.length g_BlockedC]) rfl (V.loadBox 2 rfl rfl rfl Tryz.isAgg24 Tryz.sizeOf24 rfl rfl) fun a hf => S.p hf hs (.slice l2A l2.length l2C) rfl rfl fun a hf => S.call hf rfl rfl rfl (call_fn (vs := [.agg #[iv g.W, iv g.H, iv g.Layers, .slice g_BlockedA g.Blocked.length g_BlockedC], .slice l2A l2.length l2C]) rfl rfl rfl Tryz.call35) (R_ref7_withBlocked g l2 _ g_BlockedA g_BlockedC ((Ag.args _ _ _).view hv_g_Blocked hs) l2A l2C (hs.ownView 0 rfl) _ h) (fun v a w' hf hr => ?_))))))))))))))
   obtain ⟨y2, y2_BlockedA, y2_BlockedC, rfl, h2, hs2⟩ := hr
   replace h := h2; replace hs := hs.call hs2; clear h2 hs2
   refine S.storeBox 2 hf hs rfl rfl [iv y2.W, iv y2.H, iv y2.Layers, .slice y2_BlockedA y2.Blocked.length y2_BlockedC] [iv y2.W, iv y2.H, iv y2.Layers, .slice y2_BlockedA y2.Blocked.length y2_BlockedC] rfl rfl rfl rfl rfl Tryz.sizeOf24 rfl rfl rfl rfl (fun a w hf hs => S.p hf hs (iv 0) rfl rfl fun a hf => R.nil (X.then_ (wp_ret ?_)))
   have hsR := hs
   replace hs := hs.take 1
   exact L.ret hf (run_results2 Tryz.results11 (ResIs.box hf hsR 2 rfl rfl Tryz.isAgg24 Tryz.sizeOf24 rfl rfl) (ResIs.tmp hf rfl)) ⟨y2, y2_BlockedA, y2_BlockedC, 0, rfl, h, hs⟩
  | cons xk1 llk1 =>
   have hltk1 := range_lt hkk1; have hc := range_go hkk1; have hxk1 := range_get hlk1
   obtain ⟨next1, hnext1⟩ : ∃ X : List Cell → Prop, X = (fun l2 => forIn' (fun k x (s : List Cell) next => M_ref7_Blocked_L1 t k x s (fun l2 => next l2)) (fun (s : List Cell) => (fun (l2 : List Cell) => M_ref7_withBlocked g l2 fun y2 => Q y2 0) s) llk1 (k1 + 1) l2) := ⟨_, rfl⟩
   replace h : M_ref7_Blocked_L1 t k1 xk1 l2 next1 := by rw [hnext1]; exact h
   unfold M_ref7_Blocked_L1 at h
   refine wp_seq (R.list (S.v hf hs (.bool true) rfl (V.cmp true rfl rfl rfl rfl hc) fun a hf => R.nil (X.then_ (wp_seq (C.yes hf rfl (wp_skip (X.then_ (wp_seq (wp_block (wp_seq (R.list ?_)))))))))))
   obtain ⟨cs1, he1, hr1⟩ := hv_r.at_ _ _ hxk1
   obtain ⟨u1A, u1C, rfl, hvu1⟩ := hr1
   refine S.v hf hs (elemPtr rA (k1 * 2)) rfl (V.index rfl rfl rfl Tryz.runUnderlying28 Tryz.sizeOf47 (hv_r.some_ (lt_of_get hxk1)) (Int.natCast_nonneg _) (lt_of_get hxk1) rfl) fun a hf => S.v hf hs (.agg #[.string (ba xk1.Net), .slice u1A xk1.Ways.length u1C]) rfl (V.loadEl (off := 0) (Ag.args _ _ _) he1 rfl rfl rfl Tryz.isAgg47 Tryz.sizeOf47 rfl rfl) fun a hf => S.alloc hf hs rfl rfl rfl [.string (ba []), .slice none 0 0] rfl Tryz.zeroValue47 rfl (fun g3 a w hf hs => S.storeBox 0 hf hs rfl rfl [.string (ba xk1.Net), .slice u1A xk1.Ways.length u1C] [.string (ba xk1.Net), .slice u1A xk1.Ways.length u1C] rfl rfl rfl rfl rfl Tryz.sizeOf47 rfl rfl rfl rfl (fun a w hf hs => R.nil (X.then_ (R.list (S.p hf hs (.slice l2A l2.length l2C) rfl rfl fun a hf => S.p hf hs (.slice tA t.length tC) rfl rfl fun a hf => S.v hf hs (.agg #[.string (ba xk1.Net), .slice u1A xk1.Ways.length u1C]) rfl (V.loadBox 0 rfl rfl rfl Tryz.isAgg47 Tryz.sizeOf47 rfl rfl) fun a hf => ?_)))))
   refine S.call hf rfl rfl rfl (call_fn (vs := [.slice tA t.length tC, .agg #[.string (ba xk1.Net), .slice u1A xk1.Ways.length u1C]]) rfl rfl rfl Tryz.call34) (R_ref7_cellsOf t xk1 _ tA tC ((Ag.args _ _ _).view hv_t hs) u1A u1C ((Ag.args _ _ _).view hvu1 hs) _ h) (fun v a w' hf hr => ?_)
   obtain ⟨y3, y3A, y3C, rfl, h2, hs2⟩ := hr
   replace h := h2; replace hs := hs.call hs2; clear h2 hs2
   obtain ⟨hroom, h⟩ := h
   refine S.appendAny 2 hf hs rfl rfl rfl rfl rfl rfl rfl Tryz.underlying22 info55 rfl hroom (hs.ownView 0 rfl) (fun A1 C1 a w hf hs => S.p hf hs (.slice A1 (l2 ++ y3).length C1) rfl rfl fun a hf => R.nil (X.blk (X.then_ (R.list (S.v hf hs (iv ((k1 + 1 : Nat) : Int)) rfl (V.incr rfl rfl rfl hltk1 hlenk1) fun a hf => S.p hf hs (iv ((k1 + 1 : Nat) : Int)) rfl rfl fun a hf => R.nil (X.then_ ?_))))))
   exact ⟨xk1, llk1, rfl, k1 + 1, (l2 ++ y3), A1, C1, range_drop hlk1, range_len hkk1, (by rw [hnext1] at h; exact h), (((((((hf.nil.cons (hf.get 21 _ rfl)).cons (hf.get 20 _ rfl)).cons (hf.get 9 _ rfl)).cons (hf.get 6 _ rfl)).cons (hf.get 3 _ rfl)).cons (hf.get 1 _ rfl)).cons (hf.get 22 _ rfl)), hs.drop.drop⟩
end Go.Proofs.YtihjaehkdgdenaaGreatDoor

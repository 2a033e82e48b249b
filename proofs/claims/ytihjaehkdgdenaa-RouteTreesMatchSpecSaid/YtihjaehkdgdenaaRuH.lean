/- Chapter texts of ours, as far as the claim needs them. -/
import Derived.Test.YtihjaehkdgdenaaRtY
import Derived.Test.YtihjaehkdgdenaaRuD
namespace Go.Proofs.Ytihjaehkdgdenaa
open Go Go.RowKit
set_option linter.unusedVariables false
set_option linter.unusedVariables false
def M_equal_cell_L1 (s2 : (List Cell)) (Q : Bool → Prop) (k1 : Nat) (xk1 : Cell)  (next1 : Prop) : Prop :=
  idx s2 (k1 : Int) fun x1 => cnd (!(decide (xk1 = x1))) (Q false) (next1)
def M_equal_cell (s1 : (List Cell)) (s2 : (List Cell)) (Q : Bool → Prop) : Prop :=
  cnd ((s1.length : Int) != (s2.length : Int)) (Q false) (forIn' (fun k x (s : Unit) next => M_equal_cell_L1 s2 Q k x (next ())) (fun (s : Unit) => Q true) s1 0 ())
set_option maxHeartbeats 1000000 in
theorem R_equal_cell (s1 : (List Cell)) (s2 : (List Cell)) (w0 : World) (s1A : Option Addr) (s1C : Nat) (hv_s1 : View w0 (old w0 none_) s1A s1C s1) (s2A : Option Addr) (s2C : Nat) (hv_s2 : View w0 (old w0 none_) s2A s2C s2) (Q : Bool → Prop) (h : M_equal_cell s1 s2 Q) :
  Ret Try.prog 19 #[.slice s1A s1.length s1C, .slice s2A s2.length s2C] w0 fun v w' => ∃ (r0 : Bool), v = .bool r0 ∧ Q r0 ∧ Sat w0 none_ [] w' := by
 refine fn_enter Try.func19 rfl Try.ntmps19 rfl (fs := [(0, .slice s1A s1.length s1C), (1, .slice s2A s2.length s2C)]) rfl (fun a hf => ?_)
 have hs := Sat.start w0 none_
 unfold M_equal_cell at h
 refine wp_seq (R.list ?_)
 refine S.p hf hs (.bool false) rfl rfl fun a hf => ?_
 refine R.nil (X.then_ (wp_seq (wp_seq (R.list ?_))))
 refine S.p hf hs (.slice s1A s1.length s1C) rfl rfl fun a hf => ?_
 refine S.v hf hs (iv (s1.length : Int)) rfl (V.len rfl rfl Try.runUnderlying22) fun a hf => ?_
 refine S.p hf hs (.slice s2A s2.length s2C) rfl rfl fun a hf => ?_
 refine S.v hf hs (iv (s2.length : Int)) rfl (V.len rfl rfl Try.runUnderlying22) fun a hf => ?_
 refine S.p hf hs (.bool ((s1.length : Int) != (s2.length : Int))) rfl rfl fun a hf => ?_
 refine R.nil (X.then_ ?_)
 refine C.cond hf (b := (s1.length : Int) != (s2.length : Int)) rfl (fun hc => ?_) (fun hc => ?_)
 ·replace h := h.1 hc
  refine wp_seq (R.list ?_)
  refine S.p hf hs (.bool false) rfl rfl fun a hf => ?_
  refine R.nil (X.then_ (wp_ret (X.then_ret ?_)))
  exact L.ret hf (run_results1 Try.results19 (ResIs.tmp hf rfl)) ⟨false, rfl, h, hs.nil⟩
 ·replace h := h.2 hc
  refine wp_skip (X.then_ (wp_seq (wp_seq (R.list ?_))))
  refine S.p hf hs (.slice s1A s1.length s1C) rfl rfl fun a hf => ?_
  refine S.v hf hs (iv (s1.length : Int)) rfl (V.len rfl rfl Try.runUnderlying22) fun a hf => ?_
  refine S.p hf hs (iv 0) rfl rfl fun a hf => ?_
  refine R.nil (X.then_ (wp_block ?_))
  have hlenk1 := hv_s1.len64
  refine C.range (fun (ll : List Cell) a w => ∃ (k1 : Nat) , s1.drop k1 = ll ∧ k1 + ll.length = s1.length ∧ forIn' (fun k x (s : Unit) next => M_equal_cell_L1 s2 Q k x (next ())) (fun (s : Unit) => Q true) ll k1 () ∧ FrOk 26 [(13, iv (k1 : Int)), (0, .slice s1A s1.length s1C), (1, .slice s2A s2.length s2C), (12, iv (s1.length : Int))] a ∧ Sat w0 none_ [] w) s1 ⟨0, rfl, Nat.zero_add _, h, ((((hf.nil.cons (hf.get 12 _ rfl)).cons (hf.get 1 _ rfl)).cons (hf.get 0 _ rfl)).cons (hf.get 13 _ rfl)), hs⟩ ?_
  clear h hf hs
  rintro llk1 a w ⟨k1, hlk1, hkk1, h, hf, hs⟩
  cases llk1 with
  | nil =>
   have hc := range_done hkk1
   replace h : Q true := h
   refine wp_seq (R.list ?_)
   refine S.v hf hs (.bool false) rfl (V.cmp false rfl rfl rfl rfl hc) fun a hf => ?_
   refine R.nil (X.then_ (wp_seq ?_))
   refine C.no hf rfl ?_
   refine wp_exit (X.then_exit (X.then_exit (X.blk_exit (X.then_ (wp_seq (R.list ?_))))))
   refine S.p hf hs (.bool true) rfl rfl fun a hf => ?_
   refine R.nil (X.then_ (wp_ret ?_))
   exact L.ret hf (run_results1 Try.results19 (ResIs.tmp hf rfl)) ⟨true, rfl, h, hs.nil⟩
  | cons xk1 llk1 =>
   have hltk1 := range_lt hkk1; have hc := range_go hkk1; have hxk1 := range_get hlk1
   obtain ⟨next1, hnext1⟩ : ∃ X : Prop, X = (forIn' (fun k x (s : Unit) next => M_equal_cell_L1 s2 Q k x (next ())) (fun (s : Unit) => Q true) llk1 (k1 + 1) ()) := ⟨_, rfl⟩
   replace h : M_equal_cell_L1 s2 Q k1 xk1  next1 := by rw [hnext1]; exact h
   unfold M_equal_cell_L1 at h
   refine wp_seq (R.list ?_)
   refine S.v hf hs (.bool true) rfl (V.cmp true rfl rfl rfl rfl hc) fun a hf => ?_
   refine R.nil (X.then_ (wp_seq ?_))
   refine C.yes hf rfl ?_
   refine wp_skip (X.then_ (wp_seq (wp_block (wp_seq (R.list ?_)))))
   refine S.p hf hs (iv (k1 : Int)) rfl rfl fun a hf => ?_
   refine S.p hf hs (iv (k1 : Int)) rfl rfl fun a hf => ?_
   refine R.nil (X.then_ (wp_seq ?_))
   refine R.draw mo (by kernel_rfl) hs ?_
   refine D.p hf (.slice s1A s1.length s1C) rfl rfl fun a hf => ?_
   refine D.p hf (iv (k1 : Int)) rfl rfl fun a hf => ?_
   refine D.v hf (elemPtr s1A (k1 * 3)) rfl (V.index rfl rfl rfl Try.runUnderlying22 Try.sizeOf28 (hv_s1.some_ (lt_of_get hxk1)) (Int.natCast_nonneg _) (lt_of_get hxk1) rfl) fun a hf => ?_
   refine D.v hf (.agg #[iv xk1.X, iv xk1.Y, iv xk1.Layer]) rfl (V.loadEl (off := 0) (Ag.args _ _ _) (hv_s1.flat hxk1) rfl rfl rfl Try.isAgg28 Try.sizeOf28 rfl rfl) fun a hf => ?_
   refine D.p hf (.slice s2A s2.length s2C) rfl rfl fun a hf => ?_
   refine D.p hf (iv (k1 : Int)) rfl rfl fun a hf => ?_
   obtain ⟨h0x1, x1, hx1, h⟩ := h
   refine D.v hf (elemPtr s2A (k1 * 3)) rfl (V.index rfl rfl rfl Try.runUnderlying22 Try.sizeOf28 (hv_s2.some_ (lt_of_get hx1)) (Int.natCast_nonneg _) (lt_of_get hx1) rfl) fun a hf => ?_
   refine D.v hf (.agg #[iv x1.X, iv x1.Y, iv x1.Layer]) rfl (V.loadEl (off := 0) (Ag.args _ _ _) (hv_s2.flat hx1) rfl rfl rfl Try.isAgg28 Try.sizeOf28 rfl rfl) fun a hf => ?_
   refine D.v hf (.bool (!(decide (xk1 = x1)))) rfl (V.aggneq rfl rfl rfl (by kernel_rfl) (fun w => eqS28 xk1 x1 w)) fun a hf => ?_
   refine D.done (fun w hs => ?_)
   refine X.then_ ?_
   refine C.cond hf (b := !(decide (xk1 = x1))) rfl (fun hc => ?_) (fun hc => ?_)
   ·replace h := h.1 hc
    refine wp_seq (R.list ?_)
    refine S.p hf hs (.bool false) rfl rfl fun a hf => ?_
    refine R.nil (X.then_ (wp_ret (X.blk_ret (X.then_ret (X.then_ret (X.blk_ret (X.then_ret ?_)))))))
    exact L.ret hf (run_results1 Try.results19 (ResIs.tmp hf rfl)) ⟨false, rfl, h, hs.nil⟩
   ·replace h := h.2 hc
    refine wp_skip (X.blk (X.then_ (R.list ?_)))
    refine S.v hf hs (iv ((k1 + 1 : Nat) : Int)) rfl (V.incr rfl rfl rfl hltk1 hlenk1) fun a hf => ?_
    refine S.p hf hs (iv ((k1 + 1 : Nat) : Int)) rfl rfl fun a hf => ?_
    refine R.nil (X.then_ ?_)
    exact ⟨xk1, llk1, rfl, k1 + 1, range_drop hlk1, range_len hkk1, (by rw [hnext1] at h; exact h), ((((hf.nil.cons (hf.get 12 _ rfl)).cons (hf.get 1 _ rfl)).cons (hf.get 0 _ rfl)).cons (hf.get 13 _ rfl)), hs⟩
set_option linter.unusedVariables false
def M_ref7_SameWays_L1 (b : (List (List Cell))) (Q : Bool → Prop) (k1 : Nat) (xk1 : (List Cell))  (next1 : Prop) : Prop :=
  idx b (k1 : Int) fun x1 => M_equal_cell xk1 x1 fun y1 => cnd (!y1) (Q false) (next1)
def M_ref7_SameWays (a_ : (List (List Cell))) (b : (List (List Cell))) (Q : Bool → Prop) : Prop :=
  cnd ((a_.length : Int) != (b.length : Int)) (Q false) (forIn' (fun k x (s : Unit) next => M_ref7_SameWays_L1 b Q k x (next ())) (fun (s : Unit) => Q true) a_ 0 ())
set_option maxHeartbeats 1000000 in
theorem R_ref7_SameWays (a_ : (List (List Cell))) (b : (List (List Cell))) (w0 : World) (a_A : Option Addr) (a_C : Nat) (hv_a_ : View w0 (old w0 none_) a_A a_C a_) (bA : Option Addr) (bC : Nat) (hv_b : View w0 (old w0 none_) bA bC b) (Q : Bool → Prop) (h : M_ref7_SameWays a_ b Q) :
  Ret Try.prog 32 #[.slice a_A a_.length a_C, .slice bA b.length bC] w0 fun v w' => ∃ (r0 : Bool), v = .bool r0 ∧ Q r0 ∧ Sat w0 none_ [] w' := by
 refine fn_enter Try.func32 rfl Try.ntmps32 rfl (fs := [(0, .slice a_A a_.length a_C), (1, .slice bA b.length bC)]) rfl (fun a hf => ?_)
 have hs := Sat.start w0 none_
 unfold M_ref7_SameWays at h
 refine wp_seq (R.list ?_)
 refine S.p hf hs (.bool false) rfl rfl fun a hf => ?_
 refine R.nil (X.then_ (wp_seq (wp_seq (R.list ?_))))
 refine S.p hf hs (.slice a_A a_.length a_C) rfl rfl fun a hf => ?_
 refine S.v hf hs (iv (a_.length : Int)) rfl (V.len rfl rfl Try.runUnderlying47) fun a hf => ?_
 refine S.p hf hs (.slice bA b.length bC) rfl rfl fun a hf => ?_
 refine S.v hf hs (iv (b.length : Int)) rfl (V.len rfl rfl Try.runUnderlying47) fun a hf => ?_
 refine S.p hf hs (.bool ((a_.length : Int) != (b.length : Int))) rfl rfl fun a hf => ?_
 refine R.nil (X.then_ ?_)
 refine C.cond hf (b := (a_.length : Int) != (b.length : Int)) rfl (fun hc => ?_) (fun hc => ?_)
 ·replace h := h.1 hc
  refine wp_seq (R.list ?_)
  refine S.p hf hs (.bool false) rfl rfl fun a hf => ?_
  refine R.nil (X.then_ (wp_ret (X.then_ret ?_)))
  exact L.ret hf (run_results1 Try.results32 (ResIs.tmp hf rfl)) ⟨false, rfl, h, hs.nil⟩
 ·replace h := h.2 hc
  refine wp_skip (X.then_ (wp_seq (wp_seq (R.list ?_))))
  refine S.p hf hs (.slice a_A a_.length a_C) rfl rfl fun a hf => ?_
  refine S.v hf hs (iv (a_.length : Int)) rfl (V.len rfl rfl Try.runUnderlying47) fun a hf => ?_
  refine S.p hf hs (iv 0) rfl rfl fun a hf => ?_
  refine R.nil (X.then_ (wp_block ?_))
  have hlenk1 := hv_a_.len64
  refine C.range (fun (ll : List (List Cell)) a w => ∃ (k1 : Nat) , a_.drop k1 = ll ∧ k1 + ll.length = a_.length ∧ forIn' (fun k x (s : Unit) next => M_ref7_SameWays_L1 b Q k x (next ())) (fun (s : Unit) => Q true) ll k1 () ∧ FrOk 27 [(13, iv (k1 : Int)), (0, .slice a_A a_.length a_C), (1, .slice bA b.length bC), (12, iv (a_.length : Int))] a ∧ Sat w0 none_ [] w) a_ ⟨0, rfl, Nat.zero_add _, h, ((((hf.nil.cons (hf.get 12 _ rfl)).cons (hf.get 1 _ rfl)).cons (hf.get 0 _ rfl)).cons (hf.get 13 _ rfl)), hs⟩ ?_
  clear h hf hs
  rintro llk1 a w ⟨k1, hlk1, hkk1, h, hf, hs⟩
  cases llk1 with
  | nil =>
   have hc := range_done hkk1
   replace h : Q true := h
   refine wp_seq (R.list ?_)
   refine S.v hf hs (.bool false) rfl (V.cmp false rfl rfl rfl rfl hc) fun a hf => ?_
   refine R.nil (X.then_ (wp_seq ?_))
   refine C.no hf rfl ?_
   refine wp_exit (X.then_exit (X.then_exit (X.blk_exit (X.then_ (wp_seq (R.list ?_))))))
   refine S.p hf hs (.bool true) rfl rfl fun a hf => ?_
   refine R.nil (X.then_ (wp_ret ?_))
   exact L.ret hf (run_results1 Try.results32 (ResIs.tmp hf rfl)) ⟨true, rfl, h, hs.nil⟩
  | cons xk1 llk1 =>
   have hltk1 := range_lt hkk1; have hc := range_go hkk1; have hxk1 := range_get hlk1
   obtain ⟨next1, hnext1⟩ : ∃ X : Prop, X = (forIn' (fun k x (s : Unit) next => M_ref7_SameWays_L1 b Q k x (next ())) (fun (s : Unit) => Q true) llk1 (k1 + 1) ()) := ⟨_, rfl⟩
   replace h : M_ref7_SameWays_L1 b Q k1 xk1  next1 := by rw [hnext1]; exact h
   unfold M_ref7_SameWays_L1 at h
   refine wp_seq (R.list ?_)
   refine S.v hf hs (.bool true) rfl (V.cmp true rfl rfl rfl rfl hc) fun a hf => ?_
   refine R.nil (X.then_ (wp_seq ?_))
   refine C.yes hf rfl ?_
   refine wp_skip (X.then_ (wp_seq (wp_block (wp_seq (R.list ?_)))))
   refine S.p hf hs (iv (k1 : Int)) rfl rfl fun a hf => ?_
   refine S.p hf hs (iv (k1 : Int)) rfl rfl fun a hf => ?_
   refine R.nil (X.then_ (wp_seq ?_))
   refine H.start (S := Sat w0 none_ []) mo ?_
   replace hs := hs.drew
   refine H.v hf hs (.slice a_A a_.length a_C) 0 rfl rfl (by kernel_rfl) (V.pure rfl) fun a hf => ?_
   refine H.v hf hs (iv (k1 : Int)) 1 rfl rfl (by kernel_rfl) (V.pure rfl) fun a hf => ?_
   obtain ⟨cs1, he1, hr1⟩ := hv_a_.at_ _ _ hxk1
   obtain ⟨u1A, u1C, rfl, hvu1⟩ := hr1
   refine H.v hf hs (elemPtr a_A (k1 * 1)) 2 rfl rfl (by kernel_rfl) (V.index rfl rfl rfl Try.runUnderlying47 Try.sizeOf22 (hv_a_.some_ (lt_of_get hxk1)) (Int.natCast_nonneg _) (lt_of_get hxk1) rfl) fun a hf => ?_
   refine H.v hf hs (.slice u1A xk1.length u1C) 3 rfl rfl (by kernel_rfl) (V.loadEl (off := 0) (Ag.args _ _ _) he1 rfl rfl rfl Try.isAgg22 Try.sizeOf22 rfl rfl) fun a hf => ?_
   refine H.v hf hs (.slice bA b.length bC) 4 rfl rfl (by kernel_rfl) (V.pure rfl) fun a hf => ?_
   refine H.v hf hs (iv (k1 : Int)) 5 rfl rfl (by kernel_rfl) (V.pure rfl) fun a hf => ?_
   obtain ⟨h0x1, x1, hx1, h⟩ := h
   obtain ⟨cs2, he2, hr2⟩ := hv_b.at_ _ _ hx1
   obtain ⟨u2A, u2C, rfl, hvu2⟩ := hr2
   refine H.v hf hs (elemPtr bA (k1 * 1)) 6 rfl rfl (by kernel_rfl) (V.index rfl rfl rfl Try.runUnderlying47 Try.sizeOf22 (hv_b.some_ (lt_of_get hx1)) (Int.natCast_nonneg _) (lt_of_get hx1) rfl) fun a hf => ?_
   refine H.v hf hs (.slice u2A x1.length u2C) 7 rfl rfl (by kernel_rfl) (V.loadEl (off := 0) (Ag.args _ _ _) he2 rfl rfl rfl Try.isAgg22 Try.sizeOf22 rfl rfl) fun a hf => ?_
   refine H.one (i := 8) rfl (by kernel_rfl) ?_
   refine S.call hf rfl rfl rfl (call_fn (vs := [.slice u1A xk1.length u1C, .slice u2A x1.length u2C]) rfl rfl rfl Try.call19) (R_equal_cell xk1 x1 _ u1A u1C ((Ag.args _ _ _).view hvu1 hs) u2A u2C ((Ag.args _ _ _).view hvu2 hs) _ h) (fun v a w' hf hr => ?_)
   obtain ⟨y1, rfl, h2, hs2⟩ := hr
   replace h := h2; replace hs := hs.call hs2; clear h2 hs2
   refine R.nil (X.then_ ?_)
   refine ⟨hs, ?_⟩
   refine H.v hf hs (.bool (!y1)) 9 rfl rfl (by kernel_rfl) (V.pure rfl) fun a hf => ?_
   refine H.done (by kernel_rfl) ?_
   refine X.then_ ?_
   refine C.cond hf (b := !y1) rfl (fun hc => ?_) (fun hc => ?_)
   ·replace h := h.1 hc
    refine wp_seq (R.list ?_)
    refine S.p hf hs (.bool false) rfl rfl fun a hf => ?_
    refine R.nil (X.then_ (wp_ret (X.blk_ret (X.then_ret (X.then_ret (X.blk_ret (X.then_ret ?_)))))))
    exact L.ret hf (run_results1 Try.results32 (ResIs.tmp hf rfl)) ⟨false, rfl, h, hs.nil⟩
   ·replace h := h.2 hc
    refine wp_skip (X.blk (X.then_ (R.list ?_)))
    refine S.v hf hs (iv ((k1 + 1 : Nat) : Int)) rfl (V.incr rfl rfl rfl hltk1 hlenk1) fun a hf => ?_
    refine S.p hf hs (iv ((k1 + 1 : Nat) : Int)) rfl rfl fun a hf => ?_
    refine R.nil (X.then_ ?_)
    exact ⟨xk1, llk1, rfl, k1 + 1, range_drop hlk1, range_len hkk1, (by rw [hnext1] at h; exact h), ((((hf.nil.cons (hf.get 12 _ rfl)).cons (hf.get 1 _ rfl)).cons (hf.get 0 _ rfl)).cons (hf.get 13 _ rfl)), hs⟩
set_option linter.unusedVariables false
def M_law_Trees (g : Grid) (c : Costs) (pins : (List Cell)) (Q : Bool → Prop) : Prop :=
  M_route_Tree g c pins fun y1 y2 y3 => M_ref7_Tree g c pins fun y4 y5 y6 => cnd (y3 == y6) (cnd (y2 == y5) (M_ref7_SameWays y1 y4 fun y7 => cnd y7 (M_route_awake  fun y8 => Q y8) (Q false)) (Q false)) (Q false)
set_option maxHeartbeats 1000000 in
theorem R_law_Trees (g : Grid) (c : Costs) (pins : (List Cell)) (w0 : World) (g_BlockedA : Option Addr) (g_BlockedC : Nat) (hv_g_Blocked : View w0 (old w0 none_) g_BlockedA g_BlockedC g.Blocked) (pinsA : Option Addr) (pinsC : Nat) (hv_pins : View w0 (old w0 none_) pinsA pinsC pins) (Q : Bool → Prop) (h : M_law_Trees g c pins Q) :
  Ret Try.prog 9 #[.agg #[iv g.W, iv g.H, iv g.Layers, .slice g_BlockedA g.Blocked.length g_BlockedC], .agg #[iv c.Step, iv c.Via, iv c.Turn, iv c.Against], .slice pinsA pins.length pinsC] w0 fun v w' => ∃ (r0 : Bool), v = .bool r0 ∧ Q r0 ∧ Sat w0 none_ [] w' := by
 refine fn_enter Try.func9 rfl Try.ntmps9 rfl (fs := [(0, .agg #[iv g.W, iv g.H, iv g.Layers, .slice g_BlockedA g.Blocked.length g_BlockedC]), (1, .agg #[iv c.Step, iv c.Via, iv c.Turn, iv c.Against]), (2, .slice pinsA pins.length pinsC)]) rfl (fun a hf => ?_)
 have hs := Sat.start w0 none_
 unfold M_law_Trees at h
 refine wp_seq (R.list ?_)
 refine S.box hf hs rfl rfl rfl [iv g.W, iv g.H, iv g.Layers, .slice g_BlockedA g.Blocked.length g_BlockedC] rfl rfl rfl (fun g1 a w hf hs => ?_)
 refine S.box hf hs rfl rfl rfl [iv c.Step, iv c.Via, iv c.Turn, iv c.Against] rfl rfl rfl (fun g2 a w hf hs => ?_)
 refine S.p hf hs (.bool false) rfl rfl fun a hf => ?_
 refine R.nil (X.then_ (wp_seq (R.list ?_)))
 refine S.v hf hs (.agg #[iv g.W, iv g.H, iv g.Layers, .slice g_BlockedA g.Blocked.length g_BlockedC]) rfl (V.loadBox 1 rfl rfl rfl Try.isAgg24 Try.sizeOf24 rfl rfl) fun a hf => ?_
 refine S.v hf hs (.agg #[iv c.Step, iv c.Via, iv c.Turn, iv c.Against]) rfl (V.loadBox 0 rfl rfl rfl Try.isAgg26 Try.sizeOf26 rfl rfl) fun a hf => ?_
 refine S.p hf hs (.slice pinsA pins.length pinsC) rfl rfl fun a hf => ?_
 refine S.call hf rfl rfl rfl (call_fn (vs := [.agg #[iv g.W, iv g.H, iv g.Layers, .slice g_BlockedA g.Blocked.length g_BlockedC], .agg #[iv c.Step, iv c.Via, iv c.Turn, iv c.Against], .slice pinsA pins.length pinsC]) rfl rfl rfl Try.call30) (R_route_Tree g c pins _ g_BlockedA g_BlockedC ((Ag.args _ _ _).view hv_g_Blocked hs) pinsA pinsC ((Ag.args _ _ _).view hv_pins hs) _ h) (fun v a w' hf hr => ?_)
 obtain ⟨y1, y1A, y1C, y1as, y2, y3, rfl, h2, hs2⟩ := hr
 replace h := h2; replace hs := hs.call hs2; clear h2 hs2
 refine S.p hf hs (.tuple #[.slice y1A y1.length y1C, .bool y2, iv y3]) rfl rfl fun a hf => ?_
 refine S.p hf hs (.slice y1A y1.length y1C) rfl rfl fun a hf => ?_
 refine S.p hf hs (.bool y2) rfl rfl fun a hf => ?_
 refine S.p hf hs (iv y3) rfl rfl fun a hf => ?_
 refine S.p hf hs (.slice y1A y1.length y1C) rfl rfl fun a hf => ?_
 refine S.p hf hs (.bool y2) rfl rfl fun a hf => ?_
 refine S.p hf hs (iv y3) rfl rfl fun a hf => ?_
 refine R.nil (X.then_ (wp_seq (R.list ?_)))
 refine S.v hf hs (.agg #[iv g.W, iv g.H, iv g.Layers, .slice g_BlockedA g.Blocked.length g_BlockedC]) rfl (V.loadBox 2 rfl rfl rfl Try.isAgg24 Try.sizeOf24 rfl rfl) fun a hf => ?_
 refine S.v hf hs (.agg #[iv c.Step, iv c.Via, iv c.Turn, iv c.Against]) rfl (V.loadBox 1 rfl rfl rfl Try.isAgg26 Try.sizeOf26 rfl rfl) fun a hf => ?_
 refine S.p hf hs (.slice pinsA pins.length pinsC) rfl rfl fun a hf => ?_
 refine S.call hf rfl rfl rfl (call_fn (vs := [.agg #[iv g.W, iv g.H, iv g.Layers, .slice g_BlockedA g.Blocked.length g_BlockedC], .agg #[iv c.Step, iv c.Via, iv c.Turn, iv c.Against], .slice pinsA pins.length pinsC]) rfl rfl rfl Try.call31) (R_ref7_Tree g c pins _ g_BlockedA g_BlockedC ((Ag.args _ _ _).view hv_g_Blocked hs) pinsA pinsC ((Ag.args _ _ _).view hv_pins hs) _ h) (fun v a w' hf hr => ?_)
 obtain ⟨y4, y4A, y4C, y4as, y5, y6, rfl, h2, hs2⟩ := hr
 replace h := h2; replace hs := hs.call hs2; clear h2 hs2
 refine S.p hf hs (.tuple #[.slice y4A y4.length y4C, .bool y5, iv y6]) rfl rfl fun a hf => ?_
 refine S.p hf hs (.slice y4A y4.length y4C) rfl rfl fun a hf => ?_
 refine S.p hf hs (.bool y5) rfl rfl fun a hf => ?_
 refine S.p hf hs (iv y6) rfl rfl fun a hf => ?_
 refine S.p hf hs (.slice y4A y4.length y4C) rfl rfl fun a hf => ?_
 refine S.p hf hs (.bool y5) rfl rfl fun a hf => ?_
 refine S.p hf hs (iv y6) rfl rfl fun a hf => ?_
 refine R.nil (X.then_ (wp_seq (R.list ?_)))
 refine S.p hf hs (iv y3) rfl rfl fun a hf => ?_
 refine S.p hf hs (iv y6) rfl rfl fun a hf => ?_
 refine S.p hf hs (.bool (y3 == y6)) rfl rfl fun a hf => ?_
 refine S.split hf hs (b := y3 == y6) rfl rfl rfl (V.pure rfl) (fun hc a hf => ?_) (fun hc a hf => ?_)
 ·replace h := h.1 hc
  refine S.p hf hs (.bool y2) rfl rfl fun a hf => ?_
  refine S.p hf hs (.bool y5) rfl rfl fun a hf => ?_
  refine S.v hf hs (.bool (y2 == y5)) rfl (V.boolEq rfl rfl rfl Try.underlying4 rfl) fun a hf => ?_
  refine S.p hf hs (.bool (y2 == y5)) rfl rfl fun a hf => ?_
  refine S.split hf hs (b := y2 == y5) rfl rfl rfl (V.pure rfl) (fun hc a hf => ?_) (fun hc a hf => ?_)
  ·replace h := h.1 hc
   refine S.p hf hs (.slice y1A y1.length y1C) rfl rfl fun a hf => ?_
   refine S.p hf hs (.slice y4A y4.length y4C) rfl rfl fun a hf => ?_
   refine S.call hf rfl rfl rfl (call_fn (vs := [.slice y1A y1.length y1C, .slice y4A y4.length y4C]) rfl rfl rfl Try.call32) (R_ref7_SameWays y1 y4 _ y1A y1C (hs.rowsView 1 rfl) y4A y4C (hs.rowsView 0 rfl) _ h) (fun v a w' hf hr => ?_)
   obtain ⟨y7, rfl, h2, hs2⟩ := hr
   replace h := h2; replace hs := hs.call hs2; clear h2 hs2
   refine S.p hf hs (.bool y7) rfl rfl fun a hf => ?_
   refine S.split hf hs (b := y7) rfl rfl rfl (V.pure rfl) (fun hc a hf => ?_) (fun hc a hf => ?_)
   ·replace h := h.1 hc
    refine S.call hf rfl rfl rfl (call_fn (vs := []) rfl rfl rfl Try.call13) (R_route_awake  _  _ h) (fun v a w' hf hr => ?_)
    obtain ⟨y8, rfl, h2, hs2⟩ := hr
    replace h := h2; replace hs := hs.call hs2; clear h2 hs2
    refine S.p hf hs (.bool y8) rfl rfl fun a hf => ?_
    refine S.p hf hs (.bool y8) rfl rfl fun a hf => ?_
    refine R.nil (X.then_ (wp_ret ?_))
    exact L.ret hf (run_results1 Try.results9 (ResIs.tmp hf rfl)) ⟨y8, rfl, h, hs.nil⟩
   ·replace h := h.2 hc
    refine S.k hf rfl fun a hf => ?_
    refine S.p hf hs (.bool false) rfl rfl fun a hf => ?_
    refine S.p hf hs (.bool false) rfl rfl fun a hf => ?_
    refine R.nil (X.then_ (wp_ret ?_))
    exact L.ret hf (run_results1 Try.results9 (ResIs.tmp hf rfl)) ⟨false, rfl, h, hs.nil⟩
  ·replace h := h.2 hc
   refine S.k hf rfl fun a hf => ?_
   refine S.k hf rfl fun a hf => ?_
   refine S.k hf rfl fun a hf => ?_
   refine S.p hf hs (.bool false) rfl rfl fun a hf => ?_
   refine S.p hf hs (.bool false) rfl rfl fun a hf => ?_
   refine S.k hf rfl fun a hf => ?_
   refine S.p hf hs (.bool false) rfl rfl fun a hf => ?_
   refine S.p hf hs (.bool false) rfl rfl fun a hf => ?_
   refine R.nil (X.then_ (wp_ret ?_))
   exact L.ret hf (run_results1 Try.results9 (ResIs.tmp hf rfl)) ⟨false, rfl, h, hs.nil⟩
 ·replace h := h.2 hc
  refine S.k hf rfl fun a hf => ?_
  refine S.k hf rfl fun a hf => ?_
  refine S.k hf rfl fun a hf => ?_
  refine S.p hf hs (.bool false) rfl rfl fun a hf => ?_
  refine S.p hf hs (.bool false) rfl rfl fun a hf => ?_
  refine S.k hf rfl fun a hf => ?_
  refine S.k hf rfl fun a hf => ?_
  refine S.k hf rfl fun a hf => ?_
  refine S.p hf hs (.bool false) rfl rfl fun a hf => ?_
  refine S.p hf hs (.bool false) rfl rfl fun a hf => ?_
  refine S.k hf rfl fun a hf => ?_
  refine S.p hf hs (.bool false) rfl rfl fun a hf => ?_
  refine S.p hf hs (.bool false) rfl rfl fun a hf => ?_
  refine R.nil (X.then_ (wp_ret ?_))
  exact L.ret hf (run_results1 Try.results9 (ResIs.tmp hf rfl)) ⟨false, rfl, h, hs.nil⟩
end Go.Proofs.Ytihjaehkdgdenaa

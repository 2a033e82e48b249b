/- Chapter texts of ours, as far as the claim needs them. -/
import Derived.Test.YtihjaehkdgdenaaGreatDoorRyB
import Derived.Test.YtihjaehkdgdenaaGreatDoorRyC
import Derived.Test.YtihjaehkdgdenaaGreatDoorRtC
namespace Go.Proofs.YtihjaehkdgdenaaGreatDoor
open Go Go.RowKit
set_option linter.unusedVariables false
set_option linter.unusedSectionVars false
set_option linter.unusedSimpArgs false
set_option maxHeartbeats 1000000
def M_equal_cell_L1 (s2 : (List Cell)) (Q : Bool → Prop) (k1 : Nat) (xk1 : Cell)  (next1 : Prop) : Prop :=
  idx s2 (k1 : Int) fun x1 => cnd (!(decide (xk1 = x1))) (Q false) (next1)
def M_equal_cell (s1 : (List Cell)) (s2 : (List Cell)) (Q : Bool → Prop) : Prop :=
  cnd ((s1.length : Int) != (s2.length : Int)) (Q false) (forIn' (fun k x (s : Unit) next => M_equal_cell_L1 s2 Q k x (next ())) (fun (s : Unit) => Q true) s1 0 ())
theorem R_equal_cell (s1 : (List Cell)) (s2 : (List Cell)) (w0 : World) (s1A : Option Addr) (s1C : Nat) (hv_s1 : View w0 (old w0 none_) s1A s1C s1) (s2A : Option Addr) (s2C : Nat) (hv_s2 : View w0 (old w0 none_) s2A s2C s2) (Q : Bool → Prop) (h : M_equal_cell s1 s2 Q) :
  Ret Tryz.prog 36 #[.slice s1A s1.length s1C, .slice s2A s2.length s2C] w0 fun v w' => ∃ (r0 : Bool), v = .bool r0 ∧ Q r0 ∧ Sat w0 none_ [] w' := by
 refine fn_enter Tryz.func36 rfl Tryz.ntmps36 rfl (fs := [(0, .slice s1A s1.length s1C), (1, .slice s2A s2.length s2C)]) rfl (fun a hf => ?_)
 have hs := Sat.start w0 none_
 unfold M_equal_cell at h
 refine wp_seq (R.list (S.p hf hs (.bool false) rfl rfl fun a hf => R.nil (X.then_ (wp_seq (wp_seq (R.list (S.p hf hs (.slice s1A s1.length s1C) rfl rfl fun a hf => S.v hf hs (iv (s1.length : Int)) rfl (V.len rfl rfl Tryz.runUnderlying22) fun a hf => S.p hf hs (.slice s2A s2.length s2C) rfl rfl fun a hf => S.v hf hs (iv (s2.length : Int)) rfl (V.len rfl rfl Tryz.runUnderlying22) fun a hf => S.p hf hs (.bool ((s1.length : Int) != (s2.length : Int))) rfl rfl fun a hf => ?_)))))))
 refine R.nil (X.then_ ?_)
 refine C.cond hf (b := (s1.length : Int) != (s2.length : Int)) rfl (fun hc => ?_) (fun hc => ?_)
 ·replace h := h.1 hc
  refine wp_seq (R.list (S.p hf hs (.bool false) rfl rfl fun a hf => R.nil (X.then_ (wp_ret (X.then_ret ?_)))))
  exact L.ret hf (run_results1 Tryz.results36 (ResIs.tmp hf rfl)) ⟨false, rfl, h, hs.nil⟩
 ·replace h := h.2 hc
  refine wp_skip (X.then_ (wp_seq (wp_seq (R.list (S.p hf hs (.slice s1A s1.length s1C) rfl rfl fun a hf => S.v hf hs (iv (s1.length : Int)) rfl (V.len rfl rfl Tryz.runUnderlying22) fun a hf => S.p hf hs (iv 0) rfl rfl fun a hf => R.nil (X.then_ (wp_block ?_)))))))
  have hlenk1 := hv_s1.len64
  refine C.range (fun (ll : List Cell) a w => ∃ (k1 : Nat) , s1.drop k1 = ll ∧ k1 + ll.length = s1.length ∧ forIn' (fun k x (s : Unit) next => M_equal_cell_L1 s2 Q k x (next ())) (fun (s : Unit) => Q true) ll k1 () ∧ FrOk 26 [(13, iv (k1 : Int)), (0, .slice s1A s1.length s1C), (1, .slice s2A s2.length s2C), (12, iv (s1.length : Int))] a ∧ Sat w0 none_ [] w) s1 ⟨0, rfl, Nat.zero_add _, h, ((((hf.nil.cons (hf.get 12 _ rfl)).cons (hf.get 1 _ rfl)).cons (hf.get 0 _ rfl)).cons (hf.get 13 _ rfl)), hs⟩ ?_
  clear h hf hs
  rintro llk1 a w ⟨k1, hlk1, hkk1, h, hf, hs⟩
  cases llk1 with
  | nil =>
   have hc := range_done hkk1
   replace h : Q true := h
   refine wp_seq (R.list (S.v hf hs (.bool false) rfl (V.cmp false rfl rfl rfl rfl hc) fun a hf => R.nil (X.then_ (wp_seq (C.no hf rfl (wp_exit (X.then_exit (X.then_exit (X.blk_exit (X.then_ (wp_seq (R.list (S.p hf hs (.bool true) rfl rfl fun a hf => R.nil (X.then_ (wp_ret ?_)))))))))))))))
   exact L.ret hf (run_results1 Tryz.results36 (ResIs.tmp hf rfl)) ⟨true, rfl, h, hs.nil⟩
  | cons xk1 llk1 =>
   have hltk1 := range_lt hkk1; have hc := range_go hkk1; have hxk1 := range_get hlk1
   obtain ⟨next1, hnext1⟩ : ∃ X : Prop, X = (forIn' (fun k x (s : Unit) next => M_equal_cell_L1 s2 Q k x (next ())) (fun (s : Unit) => Q true) llk1 (k1 + 1) ()) := ⟨_, rfl⟩
   replace h : M_equal_cell_L1 s2 Q k1 xk1  next1 := by rw [hnext1]; exact h
   unfold M_equal_cell_L1 at h
   refine wp_seq (R.list (S.v hf hs (.bool true) rfl (V.cmp true rfl rfl rfl rfl hc) fun a hf => R.nil (X.then_ (wp_seq (C.yes hf rfl (wp_skip (X.then_ (wp_seq (wp_block (wp_seq (R.list (S.p hf hs (iv (k1 : Int)) rfl rfl fun a hf => S.p hf hs (iv (k1 : Int)) rfl rfl fun a hf => R.nil (X.then_ (wp_seq ?_))))))))))))))
   refine R.draw mo (by kernel_rfl) hs (D.p hf (.slice s1A s1.length s1C) rfl rfl fun a hf => D.p hf (iv (k1 : Int)) rfl rfl fun a hf => D.v hf (elemPtr s1A (k1 * 3)) rfl (V.index rfl rfl rfl Tryz.runUnderlying22 Tryz.sizeOf55 (hv_s1.some_ (lt_of_get hxk1)) (Int.natCast_nonneg _) (lt_of_get hxk1) rfl) fun a hf => D.v hf (.agg #[iv xk1.X, iv xk1.Y, iv xk1.Layer]) rfl (V.loadEl (off := 0) (Ag.args _ _ _) (hv_s1.flat hxk1) rfl rfl rfl Tryz.isAgg55 Tryz.sizeOf55 rfl rfl) fun a hf => D.p hf (.slice s2A s2.length s2C) rfl rfl fun a hf => D.p hf (iv (k1 : Int)) rfl rfl fun a hf => ?_)
   obtain ⟨h0x1, x1, hx1, h⟩ := h
   refine D.v hf (elemPtr s2A (k1 * 3)) rfl (V.index rfl rfl rfl Tryz.runUnderlying22 Tryz.sizeOf55 (hv_s2.some_ (lt_of_get hx1)) (Int.natCast_nonneg _) (lt_of_get hx1) rfl) fun a hf => D.v hf (.agg #[iv x1.X, iv x1.Y, iv x1.Layer]) rfl (V.loadEl (off := 0) (Ag.args _ _ _) (hv_s2.flat hx1) rfl rfl rfl Tryz.isAgg55 Tryz.sizeOf55 rfl rfl) fun a hf => D.v hf (.bool (!(decide (xk1 = x1)))) rfl (V.aggneq rfl rfl rfl (by kernel_rfl) (fun w => eqS55 xk1 x1 w)) fun a hf => D.done (fun w hs => X.then_ ?_)
   refine C.cond hf (b := !(decide (xk1 = x1))) rfl (fun hc => ?_) (fun hc => ?_)
   ·replace h := h.1 hc
    refine wp_seq (R.list (S.p hf hs (.bool false) rfl rfl fun a hf => R.nil (X.then_ (wp_ret (X.blk_ret (X.then_ret (X.then_ret (X.blk_ret (X.then_ret ?_)))))))))
    exact L.ret hf (run_results1 Tryz.results36 (ResIs.tmp hf rfl)) ⟨false, rfl, h, hs.nil⟩
   ·replace h := h.2 hc
    refine wp_skip (X.blk (X.then_ (R.list (S.v hf hs (iv ((k1 + 1 : Nat) : Int)) rfl (V.incr rfl rfl rfl hltk1 hlenk1) fun a hf => S.p hf hs (iv ((k1 + 1 : Nat) : Int)) rfl rfl fun a hf => R.nil (X.then_ ?_)))))
    exact ⟨xk1, llk1, rfl, k1 + 1, range_drop hlk1, range_len hkk1, (by rw [hnext1] at h; exact h), ((((hf.nil.cons (hf.get 12 _ rfl)).cons (hf.get 1 _ rfl)).cons (hf.get 0 _ rfl)).cons (hf.get 13 _ rfl)), hs⟩
def M_ref7_SameGrid (a_ : Grid) (b : Grid) (Q : Bool → Prop) : Prop :=
  cnd (a_.W == b.W) (cnd (a_.H == b.H) (cnd (a_.Layers == b.Layers) (M_equal_cell a_.Blocked b.Blocked fun y1 => Q y1) (Q false)) (Q false)) (Q false)
theorem R_ref7_SameGrid (a_ : Grid) (b : Grid) (w0 : World) (a__BlockedA : Option Addr) (a__BlockedC : Nat) (hv_a__Blocked : View w0 (old w0 none_) a__BlockedA a__BlockedC a_.Blocked) (b_BlockedA : Option Addr) (b_BlockedC : Nat) (hv_b_Blocked : View w0 (old w0 none_) b_BlockedA b_BlockedC b.Blocked) (Q : Bool → Prop) (h : M_ref7_SameGrid a_ b Q) :
  Ret Tryz.prog 12 #[.agg #[iv a_.W, iv a_.H, iv a_.Layers, .slice a__BlockedA a_.Blocked.length a__BlockedC], .agg #[iv b.W, iv b.H, iv b.Layers, .slice b_BlockedA b.Blocked.length b_BlockedC]] w0 fun v w' => ∃ (r0 : Bool), v = .bool r0 ∧ Q r0 ∧ Sat w0 none_ [] w' := by
 refine fn_enter Tryz.func12 rfl Tryz.ntmps12 rfl (fs := [(0, .agg #[iv a_.W, iv a_.H, iv a_.Layers, .slice a__BlockedA a_.Blocked.length a__BlockedC]), (1, .agg #[iv b.W, iv b.H, iv b.Layers, .slice b_BlockedA b.Blocked.length b_BlockedC])]) rfl (fun a hf => ?_)
 have hs := Sat.start w0 none_
 unfold M_ref7_SameGrid at h
 refine wp_seq (R.list (S.box hf hs rfl rfl rfl [iv a_.W, iv a_.H, iv a_.Layers, .slice a__BlockedA a_.Blocked.length a__BlockedC] rfl rfl rfl (fun g1 a w hf hs => S.box hf hs rfl rfl rfl [iv b.W, iv b.H, iv b.Layers, .slice b_BlockedA b.Blocked.length b_BlockedC] rfl rfl rfl (fun g2 a w hf hs => S.p hf hs (.bool false) rfl rfl fun a hf => R.nil (X.then_ (wp_seq (R.list (S.v hf hs ((pn g1 0)) rfl (V.fieldBox rfl rfl Tryz.runUnderlying24 rfl Tryz.sizeOf3 rfl rfl) fun a hf => S.v hf hs (iv a_.W) rfl (V.loadBox 1 rfl rfl rfl Tryz.isAgg3 Tryz.sizeOf3 rfl rfl) fun a hf => S.v hf hs ((pn g2 0)) rfl (V.fieldBox rfl rfl Tryz.runUnderlying24 rfl Tryz.sizeOf3 rfl rfl) fun a hf => ?_))))))))
 refine S.v hf hs (iv b.W) rfl (V.loadBox 0 rfl rfl rfl Tryz.isAgg3 Tryz.sizeOf3 rfl rfl) fun a hf => S.p hf hs (.bool (a_.W == b.W)) rfl rfl fun a hf => ?_
 refine S.split hf hs (b := a_.W == b.W) rfl rfl rfl (V.pure rfl) (fun hc a hf => ?_) (fun hc a hf => ?_)
 ·replace h := h.1 hc
  refine S.v hf hs ((pn g1 1)) rfl (V.fieldBox rfl rfl Tryz.runUnderlying24 rfl Tryz.sizeOf3 rfl rfl) fun a hf => S.v hf hs (iv a_.H) rfl (V.loadBox 1 rfl rfl rfl Tryz.isAgg3 Tryz.sizeOf3 rfl rfl) fun a hf => S.v hf hs ((pn g2 1)) rfl (V.fieldBox rfl rfl Tryz.runUnderlying24 rfl Tryz.sizeOf3 rfl rfl) fun a hf => S.v hf hs (iv b.H) rfl (V.loadBox 0 rfl rfl rfl Tryz.isAgg3 Tryz.sizeOf3 rfl rfl) fun a hf => S.p hf hs (.bool (a_.H == b.H)) rfl rfl fun a hf => S.p hf hs (.bool (a_.H == b.H)) rfl rfl fun a hf => ?_
  refine S.split hf hs (b := a_.H == b.H) rfl rfl rfl (V.pure rfl) (fun hc a hf => ?_) (fun hc a hf => ?_)
  ·replace h := h.1 hc
   refine S.v hf hs ((pn g1 2)) rfl (V.fieldBox rfl rfl Tryz.runUnderlying24 rfl Tryz.sizeOf3 rfl rfl) fun a hf => S.v hf hs (iv a_.Layers) rfl (V.loadBox 1 rfl rfl rfl Tryz.isAgg3 Tryz.sizeOf3 rfl rfl) fun a hf => S.v hf hs ((pn g2 2)) rfl (V.fieldBox rfl rfl Tryz.runUnderlying24 rfl Tryz.sizeOf3 rfl rfl) fun a hf => S.v hf hs (iv b.Layers) rfl (V.loadBox 0 rfl rfl rfl Tryz.isAgg3 Tryz.sizeOf3 rfl rfl) fun a hf => S.p hf hs (.bool (a_.Layers == b.Layers)) rfl rfl fun a hf => S.p hf hs (.bool (a_.Layers == b.Layers)) rfl rfl fun a hf => ?_
   refine S.split hf hs (b := a_.Layers == b.Layers) rfl rfl rfl (V.pure rfl) (fun hc a hf => ?_) (fun hc a hf => ?_)
   ·replace h := h.1 hc
    refine S.v hf hs ((pn g1 3)) rfl (V.fieldBox rfl rfl Tryz.runUnderlying24 rfl Tryz.sizeOf22 rfl rfl) fun a hf => S.v hf hs (.slice a__BlockedA a_.Blocked.length a__BlockedC) rfl (V.loadBox 1 rfl rfl rfl Tryz.isAgg22 Tryz.sizeOf22 rfl rfl) fun a hf => S.v hf hs ((pn g2 3)) rfl (V.fieldBox rfl rfl Tryz.runUnderlying24 rfl Tryz.sizeOf22 rfl rfl) fun a hf => S.v hf hs (.slice b_BlockedA b.Blocked.length b_BlockedC) rfl (V.loadBox 0 rfl rfl rfl Tryz.isAgg22 Tryz.sizeOf22 rfl rfl) fun a hf => S.call hf rfl rfl rfl (call_fn (vs := [.slice a__BlockedA a_.Blocked.length a__BlockedC, .slice b_BlockedA b.Blocked.length b_BlockedC]) rfl rfl rfl Tryz.call36) (R_equal_cell a_.Blocked b.Blocked _ a__BlockedA a__BlockedC ((Ag.args _ _ _).view hv_a__Blocked hs) b_BlockedA b_BlockedC ((Ag.args _ _ _).view hv_b_Blocked hs) _ h) (fun v a w' hf hr => ?_)
    obtain ⟨y1, rfl, h2, hs2⟩ := hr
    replace h := h2; replace hs := hs.call hs2; clear h2 hs2
    refine S.p hf hs (.bool y1) rfl rfl fun a hf => S.p hf hs (.bool y1) rfl rfl fun a hf => R.nil (X.then_ (wp_ret ?_))
    exact L.ret hf (run_results1 Tryz.results12 (ResIs.tmp hf rfl)) ⟨y1, rfl, h, hs.nil⟩
   ·replace h := h.2 hc
    refine S.k hf rfl fun a hf => S.k hf rfl fun a hf => S.k hf rfl fun a hf => S.k hf rfl fun a hf => S.k hf rfl fun a hf => S.p hf hs (.bool false) rfl rfl fun a hf => S.p hf hs (.bool false) rfl rfl fun a hf => R.nil (X.then_ (wp_ret ?_))
    exact L.ret hf (run_results1 Tryz.results12 (ResIs.tmp hf rfl)) ⟨false, rfl, h, hs.nil⟩
  ·replace h := h.2 hc
   refine S.k hf rfl fun a hf => S.k hf rfl fun a hf => S.k hf rfl fun a hf => S.k hf rfl fun a hf => S.k hf rfl fun a hf => S.p hf hs (.bool false) rfl rfl fun a hf => S.p hf hs (.bool false) rfl rfl fun a hf => S.k hf rfl fun a hf => ?_
   refine S.k hf rfl fun a hf => S.k hf rfl fun a hf => S.k hf rfl fun a hf => S.k hf rfl fun a hf => S.p hf hs (.bool false) rfl rfl fun a hf => S.p hf hs (.bool false) rfl rfl fun a hf => R.nil (X.then_ (wp_ret ?_))
   exact L.ret hf (run_results1 Tryz.results12 (ResIs.tmp hf rfl)) ⟨false, rfl, h, hs.nil⟩
 ·replace h := h.2 hc
  refine S.k hf rfl fun a hf => S.k hf rfl fun a hf => S.k hf rfl fun a hf => S.k hf rfl fun a hf => S.k hf rfl fun a hf => S.p hf hs (.bool false) rfl rfl fun a hf => S.p hf hs (.bool false) rfl rfl fun a hf => S.k hf rfl fun a hf => ?_
  refine S.k hf rfl fun a hf => S.k hf rfl fun a hf => S.k hf rfl fun a hf => S.k hf rfl fun a hf => S.p hf hs (.bool false) rfl rfl fun a hf => S.p hf hs (.bool false) rfl rfl fun a hf => S.k hf rfl fun a hf => S.k hf rfl fun a hf => ?_
  refine S.k hf rfl fun a hf => S.k hf rfl fun a hf => S.k hf rfl fun a hf => S.p hf hs (.bool false) rfl rfl fun a hf => S.p hf hs (.bool false) rfl rfl fun a hf => R.nil (X.then_ (wp_ret ?_))
  exact L.ret hf (run_results1 Tryz.results12 (ResIs.tmp hf rfl)) ⟨false, rfl, h, hs.nil⟩
def M_law_Routed_k1 (g : Grid) (t : (List Task)) (r : (List Routed)) (Q : Bool → Prop) (c1 : Bool) : Prop :=
  cnd c1 (Q false) (M_route_Blocked g t r fun y7 y8 => M_ref7_Blocked g t r fun y9 y10 => cnd (y8 == y10) (M_ref7_SameGrid y7 y9 fun y11 => cnd y11 (M_route_awake  fun y12 => Q y12) (Q false)) (Q false))
def M_law_Routed (g : Grid) (c : Costs) (t : (List Task)) (r : (List Routed)) (Q : Bool → Prop) : Prop :=
  M_route_Total g c t r fun y1 y2 y3 => M_ref7_Total g c t r fun y4 y5 y6 => M_route_CheckRouted g t r fun y13 => M_ref7_CheckRouted g t r fun y14 => cnd (y13 != y14) (M_law_Routed_k1 g t r Q true) (cnd (y3 != y6) (M_law_Routed_k1 g t r Q true) (cnd (y1 != y4) (M_law_Routed_k1 g t r Q true) (M_law_Routed_k1 g t r Q (y2 != y5))))
theorem R_law_Routed (g : Grid) (c : Costs) (t : (List Task)) (r : (List Routed)) (w0 : World) (g_BlockedA : Option Addr) (g_BlockedC : Nat) (hv_g_Blocked : View w0 (old w0 none_) g_BlockedA g_BlockedC g.Blocked) (tA : Option Addr) (tC : Nat) (hv_t : View w0 (old w0 none_) tA tC t) (rA : Option Addr) (rC : Nat) (hv_r : View w0 (old w0 none_) rA rC r) (Q : Bool → Prop) (h : M_law_Routed g c t r Q) :
  Ret Tryz.prog 3 #[.agg #[iv g.W, iv g.H, iv g.Layers, .slice g_BlockedA g.Blocked.length g_BlockedC], .agg #[iv c.Step, iv c.Via, iv c.Turn, iv c.Against], .slice tA t.length tC, .slice rA r.length rC] w0 fun v w' => ∃ (r0 : Bool), v = .bool r0 ∧ Q r0 ∧ Sat w0 none_ [] w' := by
 refine fn_enter Tryz.func3 rfl Tryz.ntmps3 rfl (fs := [(0, .agg #[iv g.W, iv g.H, iv g.Layers, .slice g_BlockedA g.Blocked.length g_BlockedC]), (1, .agg #[iv c.Step, iv c.Via, iv c.Turn, iv c.Against]), (2, .slice tA t.length tC), (3, .slice rA r.length rC)]) rfl (fun a hf => ?_)
 have hs := Sat.start w0 none_
 unfold M_law_Routed at h
 refine wp_seq (R.list (S.box hf hs rfl rfl rfl [iv g.W, iv g.H, iv g.Layers, .slice g_BlockedA g.Blocked.length g_BlockedC] rfl rfl rfl (fun g1 a w hf hs => S.box hf hs rfl rfl rfl [iv c.Step, iv c.Via, iv c.Turn, iv c.Against] rfl rfl rfl (fun g2 a w hf hs => S.p hf hs (.bool false) rfl rfl fun a hf => R.nil (X.then_ (wp_seq (R.list (S.v hf hs (.agg #[iv g.W, iv g.H, iv g.Layers, .slice g_BlockedA g.Blocked.length g_BlockedC]) rfl (V.loadBox 1 rfl rfl rfl Tryz.isAgg24 Tryz.sizeOf24 rfl rfl) fun a hf => S.v hf hs (.agg #[iv c.Step, iv c.Via, iv c.Turn, iv c.Against]) rfl (V.loadBox 0 rfl rfl rfl Tryz.isAgg26 Tryz.sizeOf26 rfl rfl) fun a hf => S.p hf hs (.slice tA t.length tC) rfl rfl fun a hf => ?_))))))))
 refine S.p hf hs (.slice rA r.length rC) rfl rfl fun a hf => S.call hf rfl rfl rfl (call_fn (vs := [.agg #[iv g.W, iv g.H, iv g.Layers, .slice g_BlockedA g.Blocked.length g_BlockedC], .agg #[iv c.Step, iv c.Via, iv c.Turn, iv c.Against], .slice tA t.length tC, .slice rA r.length rC]) rfl rfl rfl Tryz.call6) (R_route_Total g c t r _ g_BlockedA g_BlockedC ((Ag.args _ _ _).view hv_g_Blocked hs) tA tC ((Ag.args _ _ _).view hv_t hs) rA rC ((Ag.args _ _ _).view hv_r hs) _ h) (fun v a w' hf hr => ?_)
 obtain ⟨y1, y2, y3, rfl, h2, hs2⟩ := hr
 replace h := h2; replace hs := hs.call hs2; clear h2 hs2
 refine S.p hf hs (.tuple #[iv y1, iv y2, iv y3]) rfl rfl fun a hf => S.p hf hs (iv y1) rfl rfl fun a hf => S.p hf hs (iv y2) rfl rfl fun a hf => S.p hf hs (iv y3) rfl rfl fun a hf => S.p hf hs (iv y1) rfl rfl fun a hf => S.p hf hs (iv y2) rfl rfl fun a hf => S.p hf hs (iv y3) rfl rfl fun a hf => R.nil (X.then_ (wp_seq (R.list ?_)))
 refine S.v hf hs (.agg #[iv g.W, iv g.H, iv g.Layers, .slice g_BlockedA g.Blocked.length g_BlockedC]) rfl (V.loadBox 1 rfl rfl rfl Tryz.isAgg24 Tryz.sizeOf24 rfl rfl) fun a hf => S.v hf hs (.agg #[iv c.Step, iv c.Via, iv c.Turn, iv c.Against]) rfl (V.loadBox 0 rfl rfl rfl Tryz.isAgg26 Tryz.sizeOf26 rfl rfl) fun a hf => S.p hf hs (.slice tA t.length tC) rfl rfl fun a hf => S.p hf hs (.slice rA r.length rC) rfl rfl fun a hf => S.call hf rfl rfl rfl (call_fn (vs := [.agg #[iv g.W, iv g.H, iv g.Layers, .slice g_BlockedA g.Blocked.length g_BlockedC], .agg #[iv c.Step, iv c.Via, iv c.Turn, iv c.Against], .slice tA t.length tC, .slice rA r.length rC]) rfl rfl rfl Tryz.call7) (R_ref7_Total g c t r _ g_BlockedA g_BlockedC ((Ag.args _ _ _).view hv_g_Blocked hs) tA tC ((Ag.args _ _ _).view hv_t hs) rA rC ((Ag.args _ _ _).view hv_r hs) _ h) (fun v a w' hf hr => ?_)
 obtain ⟨y4, y5, y6, rfl, h2, hs2⟩ := hr
 replace h := h2; replace hs := hs.call hs2; clear h2 hs2
 refine S.p hf hs (.tuple #[iv y4, iv y5, iv y6]) rfl rfl fun a hf => S.p hf hs (iv y4) rfl rfl fun a hf => S.p hf hs (iv y5) rfl rfl fun a hf => S.p hf hs (iv y6) rfl rfl fun a hf => S.p hf hs (iv y4) rfl rfl fun a hf => S.p hf hs (iv y5) rfl rfl fun a hf => S.p hf hs (iv y6) rfl rfl fun a hf => R.nil (X.then_ (wp_seq (wp_seq ?_)))
 refine C.cut (J := fun a w => ∃ (c1 : Bool), M_law_Routed_k1 g t r Q c1 ∧ FrOk 84 [(2, .slice tA t.length tC), (3, .slice rA r.length rC), (4, (pn g1 0)), (58, .bool c1)] a ∧ Sat w0 none_ [hbox g2 26 [iv c.Step, iv c.Via, iv c.Turn, iv c.Against], hbox g1 24 [iv g.W, iv g.H, iv g.Layers, .slice g_BlockedA g.Blocked.length g_BlockedC]] w) ?_ ?_
 ·rintro a w ⟨c1, h, hf, hs⟩
  unfold M_law_Routed_k1 at h
  refine C.cond hf (b := c1) rfl (fun hc => ?_) (fun hc => ?_)
  ·replace h := h.1 hc
   refine wp_seq (R.list (S.p hf hs (.bool false) rfl rfl fun a hf => R.nil (X.then_ (wp_ret (X.then_ret ?_)))))
   exact L.ret hf (run_results1 Tryz.results3 (ResIs.tmp hf rfl)) ⟨false, rfl, h, hs.nil⟩
  ·replace h := h.2 hc
   refine wp_skip (X.then_ (wp_seq (R.list (S.v hf hs (.agg #[iv g.W, iv g.H, iv g.Layers, .slice g_BlockedA g.Blocked.length g_BlockedC]) rfl (V.loadBox 1 rfl rfl rfl Tryz.isAgg24 Tryz.sizeOf24 rfl rfl) fun a hf => S.p hf hs (.slice tA t.length tC) rfl rfl fun a hf => S.p hf hs (.slice rA r.length rC) rfl rfl fun a hf => S.call hf rfl rfl rfl (call_fn (vs := [.agg #[iv g.W, iv g.H, iv g.Layers, .slice g_BlockedA g.Blocked.length g_BlockedC], .slice tA t.length tC, .slice rA r.length rC]) rfl rfl rfl Tryz.call10) (R_route_Blocked g t r _ g_BlockedA g_BlockedC ((Ag.args _ _ _).view hv_g_Blocked hs) tA tC ((Ag.args _ _ _).view hv_t hs) rA rC ((Ag.args _ _ _).view hv_r hs) _ h) (fun v a w' hf hr => ?_)))))
   obtain ⟨y7, y7_BlockedA, y7_BlockedC, y8, rfl, h2, hs2⟩ := hr
   replace h := h2; replace hs := hs.call hs2; clear h2 hs2
   refine S.p hf hs (.tuple #[.agg #[iv y7.W, iv y7.H, iv y7.Layers, .slice y7_BlockedA y7.Blocked.length y7_BlockedC], iv y8]) rfl rfl fun a hf => S.p hf hs (.agg #[iv y7.W, iv y7.H, iv y7.Layers, .slice y7_BlockedA y7.Blocked.length y7_BlockedC]) rfl rfl fun a hf => S.p hf hs (iv y8) rfl rfl fun a hf => S.alloc hf hs rfl rfl rfl [iv 0, iv 0, iv 0, .slice none 0 0] rfl Tryz.zeroValue24 rfl (fun g3 a w hf hs => S.storeBox 0 hf hs rfl rfl [iv y7.W, iv y7.H, iv y7.Layers, .slice y7_BlockedA y7.Blocked.length y7_BlockedC] [iv y7.W, iv y7.H, iv y7.Layers, .slice y7_BlockedA y7.Blocked.length y7_BlockedC] rfl rfl rfl rfl rfl Tryz.sizeOf24 rfl rfl rfl rfl (fun a w hf hs => S.p hf hs (iv y8) rfl rfl fun a hf => R.nil (X.then_ (wp_seq (R.list (S.v hf hs (.agg #[iv g.W, iv g.H, iv g.Layers, .slice g_BlockedA g.Blocked.length g_BlockedC]) rfl (V.loadBox 3 rfl rfl rfl Tryz.isAgg24 Tryz.sizeOf24 rfl rfl) fun a hf => ?_))))))
   refine S.p hf hs (.slice tA t.length tC) rfl rfl fun a hf => S.p hf hs (.slice rA r.length rC) rfl rfl fun a hf => S.call hf rfl rfl rfl (call_fn (vs := [.agg #[iv g.W, iv g.H, iv g.Layers, .slice g_BlockedA g.Blocked.length g_BlockedC], .slice tA t.length tC, .slice rA r.length rC]) rfl rfl rfl Tryz.call11) (R_ref7_Blocked g t r _ g_BlockedA g_BlockedC ((Ag.args _ _ _).view hv_g_Blocked hs) tA tC ((Ag.args _ _ _).view hv_t hs) rA rC ((Ag.args _ _ _).view hv_r hs) _ h) (fun v a w' hf hr => ?_)
   obtain ⟨y9, y9_BlockedA, y9_BlockedC, y10, rfl, h2, hs2⟩ := hr
   replace h := h2; replace hs := hs.call hs2; clear h2 hs2
   refine S.p hf hs (.tuple #[.agg #[iv y9.W, iv y9.H, iv y9.Layers, .slice y9_BlockedA y9.Blocked.length y9_BlockedC], iv y10]) rfl rfl fun a hf => S.p hf hs (.agg #[iv y9.W, iv y9.H, iv y9.Layers, .slice y9_BlockedA y9.Blocked.length y9_BlockedC]) rfl rfl fun a hf => S.p hf hs (iv y10) rfl rfl fun a hf => S.alloc hf hs rfl rfl rfl [iv 0, iv 0, iv 0, .slice none 0 0] rfl Tryz.zeroValue24 rfl (fun g4 a w hf hs => S.storeBox 0 hf hs rfl rfl [iv y9.W, iv y9.H, iv y9.Layers, .slice y9_BlockedA y9.Blocked.length y9_BlockedC] [iv y9.W, iv y9.H, iv y9.Layers, .slice y9_BlockedA y9.Blocked.length y9_BlockedC] rfl rfl rfl rfl rfl Tryz.sizeOf24 rfl rfl rfl rfl (fun a w hf hs => S.p hf hs (iv y10) rfl rfl fun a hf => R.nil (X.then_ (wp_seq (R.list (S.p hf hs (iv y8) rfl rfl fun a hf => ?_))))))
   refine S.p hf hs (iv y10) rfl rfl fun a hf => S.p hf hs (.bool (y8 == y10)) rfl rfl fun a hf => ?_
   refine S.split hf hs (b := y8 == y10) rfl rfl rfl (V.pure rfl) (fun hc a hf => ?_) (fun hc a hf => ?_)
   ·replace h := h.1 hc
    refine S.v hf hs (.agg #[iv y7.W, iv y7.H, iv y7.Layers, .slice y7_BlockedA y7.Blocked.length y7_BlockedC]) rfl (V.loadBox 2 rfl rfl rfl Tryz.isAgg24 Tryz.sizeOf24 rfl rfl) fun a hf => S.v hf hs (.agg #[iv y9.W, iv y9.H, iv y9.Layers, .slice y9_BlockedA y9.Blocked.length y9_BlockedC]) rfl (V.loadBox 0 rfl rfl rfl Tryz.isAgg24 Tryz.sizeOf24 rfl rfl) fun a hf => S.call hf rfl rfl rfl (call_fn (vs := [.agg #[iv y7.W, iv y7.H, iv y7.Layers, .slice y7_BlockedA y7.Blocked.length y7_BlockedC], .agg #[iv y9.W, iv y9.H, iv y9.Layers, .slice y9_BlockedA y9.Blocked.length y9_BlockedC]]) rfl rfl rfl Tryz.call12) (R_ref7_SameGrid y7 y9 _ y7_BlockedA y7_BlockedC (hs.ownView 3 rfl) y9_BlockedA y9_BlockedC (hs.ownView 1 rfl) _ h) (fun v a w' hf hr => ?_)
    obtain ⟨y11, rfl, h2, hs2⟩ := hr
    replace h := h2; replace hs := hs.call hs2; clear h2 hs2
    refine S.p hf hs (.bool y11) rfl rfl fun a hf => ?_
    refine S.split hf hs (b := y11) rfl rfl rfl (V.pure rfl) (fun hc a hf => ?_) (fun hc a hf => ?_)
    ·replace h := h.1 hc
     refine S.call hf rfl rfl rfl (call_fn (vs := []) rfl rfl rfl Tryz.call13) (R_route_awake  _  _ h) (fun v a w' hf hr => ?_)
     obtain ⟨y12, rfl, h2, hs2⟩ := hr
     replace h := h2; replace hs := hs.call hs2; clear h2 hs2
     refine S.p hf hs (.bool y12) rfl rfl fun a hf => S.p hf hs (.bool y12) rfl rfl fun a hf => R.nil (X.then_ (wp_ret ?_))
     exact L.ret hf (run_results1 Tryz.results3 (ResIs.tmp hf rfl)) ⟨y12, rfl, h, hs.nil⟩
    ·replace h := h.2 hc
     refine S.k hf rfl fun a hf => S.p hf hs (.bool false) rfl rfl fun a hf => S.p hf hs (.bool false) rfl rfl fun a hf => R.nil (X.then_ (wp_ret ?_))
     exact L.ret hf (run_results1 Tryz.results3 (ResIs.tmp hf rfl)) ⟨false, rfl, h, hs.nil⟩
   ·replace h := h.2 hc
    refine S.k hf rfl fun a hf => S.k hf rfl fun a hf => S.k hf rfl fun a hf => S.p hf hs (.bool false) rfl rfl fun a hf => S.p hf hs (.bool false) rfl rfl fun a hf => S.k hf rfl fun a hf => S.p hf hs (.bool false) rfl rfl fun a hf => S.p hf hs (.bool false) rfl rfl fun a hf => ?_
    refine R.nil (X.then_ (wp_ret ?_))
    exact L.ret hf (run_results1 Tryz.results3 (ResIs.tmp hf rfl)) ⟨false, rfl, h, hs.nil⟩
 ·skip
  refine H.start (S := Sat w0 none_ [hbox g2 26 [iv c.Step, iv c.Via, iv c.Turn, iv c.Against], hbox g1 24 [iv g.W, iv g.H, iv g.Layers, .slice g_BlockedA g.Blocked.length g_BlockedC]]) mo ?_
  replace hs := hs.drew
  refine H.v hf hs (.agg #[iv g.W, iv g.H, iv g.Layers, .slice g_BlockedA g.Blocked.length g_BlockedC]) 0 rfl rfl (by kernel_rfl) (V.loadBox 1 rfl rfl rfl Tryz.isAgg24 Tryz.sizeOf24 rfl rfl) fun a hf => H.v hf hs (.slice tA t.length tC) 1 rfl rfl (by kernel_rfl) (V.pure rfl) fun a hf => H.v hf hs (.slice rA r.length rC) 2 rfl rfl (by kernel_rfl) (V.pure rfl) fun a hf => H.v hf hs (.agg #[iv g.W, iv g.H, iv g.Layers, .slice g_BlockedA g.Blocked.length g_BlockedC]) 4 rfl rfl (by kernel_rfl) (V.loadBox 1 rfl rfl rfl Tryz.isAgg24 Tryz.sizeOf24 rfl rfl) fun a hf => H.v hf hs (.slice tA t.length tC) 5 rfl rfl (by kernel_rfl) (V.pure rfl) fun a hf => H.v hf hs (.slice rA r.length rC) 6 rfl rfl (by kernel_rfl) (V.pure rfl) fun a hf => H.one (i := 3) rfl (by kernel_rfl) (S.call hf rfl rfl rfl (call_fn (vs := [.agg #[iv g.W, iv g.H, iv g.Layers, .slice g_BlockedA g.Blocked.length g_BlockedC], .slice tA t.length tC, .slice rA r.length rC]) rfl rfl rfl Tryz.call8) (R_route_CheckRouted g t r _ g_BlockedA g_BlockedC ((Ag.args _ _ _).view hv_g_Blocked hs) tA tC ((Ag.args _ _ _).view hv_t hs) rA rC ((Ag.args _ _ _).view hv_r hs) _ h) (fun v a w' hf hr => ?_))
  obtain ⟨y13, rfl, h2, hs2⟩ := hr
  replace h := h2; replace hs := hs.call hs2; clear h2 hs2
  refine R.nil (X.then_ (⟨hs, (H.one (i := 7) rfl (by kernel_rfl) (S.call hf rfl rfl rfl (call_fn (vs := [.agg #[iv g.W, iv g.H, iv g.Layers, .slice g_BlockedA g.Blocked.length g_BlockedC], .slice tA t.length tC, .slice rA r.length rC]) rfl rfl rfl Tryz.call9) (R_ref7_CheckRouted g t r _ g_BlockedA g_BlockedC ((Ag.args _ _ _).view hv_g_Blocked hs) tA tC ((Ag.args _ _ _).view hv_t hs) rA rC ((Ag.args _ _ _).view hv_r hs) _ h) (fun v a w' hf hr => ?_)))⟩))
  obtain ⟨y14, rfl, h2, hs2⟩ := hr
  replace h := h2; replace hs := hs.call hs2; clear h2 hs2
  refine R.nil (X.then_ (⟨hs, (H.v hf hs (.bool (y13 != y14)) 8 rfl rfl (by kernel_rfl) (V.pure rfl) fun a hf => ?_)⟩))
  refine H.split hf hs (b := y13 != y14) (i := 9) rfl rfl rfl rfl (by kernel_rfl) (by kernel_rfl) (by kernel_rfl) (V.pure rfl) (fun hc a hf => ?_) (fun hc a hf => ?_)
  ·replace h := h.1 hc
   refine H.k hf hs 10 rfl rfl (by kernel_rfl) fun a hf => H.k hf hs 11 rfl rfl (by kernel_rfl) fun a hf => H.k hf hs 12 rfl rfl (by kernel_rfl) fun a hf => H.v hf hs (.bool true) 13 rfl rfl (by kernel_rfl) (V.pure rfl) fun a hf => H.v hf hs (.bool true) 14 rfl rfl (by kernel_rfl) (V.pure rfl) fun a hf => H.k hf hs 15 rfl rfl (by kernel_rfl) fun a hf => H.k hf hs 16 rfl rfl (by kernel_rfl) fun a hf => H.k hf hs 17 rfl rfl (by kernel_rfl) fun a hf => ?_
   refine H.v hf hs (.bool true) 18 rfl rfl (by kernel_rfl) (V.pure rfl) fun a hf => H.v hf hs (.bool true) 19 rfl rfl (by kernel_rfl) (V.pure rfl) fun a hf => H.k hf hs 20 rfl rfl (by kernel_rfl) fun a hf => H.k hf hs 21 rfl rfl (by kernel_rfl) fun a hf => H.k hf hs 22 rfl rfl (by kernel_rfl) fun a hf => H.v hf hs (.bool true) 23 rfl rfl (by kernel_rfl) (V.pure rfl) fun a hf => H.done (by kernel_rfl) (X.then_ ?_)
   exact ⟨true, h, ((((hf.nil.cons (hf.get 58 _ rfl)).cons (hf.get 4 _ rfl)).cons (hf.get 3 _ rfl)).cons (hf.get 2 _ rfl)), hs⟩
  ·replace h := h.2 hc
   refine H.v hf hs (iv y3) 10 rfl rfl (by kernel_rfl) (V.pure rfl) fun a hf => H.v hf hs (iv y6) 11 rfl rfl (by kernel_rfl) (V.pure rfl) fun a hf => H.v hf hs (.bool (y3 != y6)) 12 rfl rfl (by kernel_rfl) (V.pure rfl) fun a hf => H.v hf hs (.bool (y3 != y6)) 13 rfl rfl (by kernel_rfl) (V.pure rfl) fun a hf => ?_
   refine H.split hf hs (b := y3 != y6) (i := 14) rfl rfl rfl rfl (by kernel_rfl) (by kernel_rfl) (by kernel_rfl) (V.pure rfl) (fun hc a hf => ?_) (fun hc a hf => ?_)
   ·replace h := h.1 hc
    refine H.k hf hs 15 rfl rfl (by kernel_rfl) fun a hf => H.k hf hs 16 rfl rfl (by kernel_rfl) fun a hf => H.k hf hs 17 rfl rfl (by kernel_rfl) fun a hf => H.v hf hs (.bool true) 18 rfl rfl (by kernel_rfl) (V.pure rfl) fun a hf => H.v hf hs (.bool true) 19 rfl rfl (by kernel_rfl) (V.pure rfl) fun a hf => H.k hf hs 20 rfl rfl (by kernel_rfl) fun a hf => H.k hf hs 21 rfl rfl (by kernel_rfl) fun a hf => H.k hf hs 22 rfl rfl (by kernel_rfl) fun a hf => ?_
    refine H.v hf hs (.bool true) 23 rfl rfl (by kernel_rfl) (V.pure rfl) fun a hf => H.done (by kernel_rfl) (X.then_ ?_)
    exact ⟨true, h, ((((hf.nil.cons (hf.get 58 _ rfl)).cons (hf.get 4 _ rfl)).cons (hf.get 3 _ rfl)).cons (hf.get 2 _ rfl)), hs⟩
   ·replace h := h.2 hc
    refine H.v hf hs (iv y1) 15 rfl rfl (by kernel_rfl) (V.pure rfl) fun a hf => H.v hf hs (iv y4) 16 rfl rfl (by kernel_rfl) (V.pure rfl) fun a hf => H.v hf hs (.bool (y1 != y4)) 17 rfl rfl (by kernel_rfl) (V.pure rfl) fun a hf => H.v hf hs (.bool (y1 != y4)) 18 rfl rfl (by kernel_rfl) (V.pure rfl) fun a hf => ?_
    refine H.split hf hs (b := y1 != y4) (i := 19) rfl rfl rfl rfl (by kernel_rfl) (by kernel_rfl) (by kernel_rfl) (V.pure rfl) (fun hc a hf => ?_) (fun hc a hf => ?_)
    ·replace h := h.1 hc
     refine H.k hf hs 20 rfl rfl (by kernel_rfl) fun a hf => H.k hf hs 21 rfl rfl (by kernel_rfl) fun a hf => H.k hf hs 22 rfl rfl (by kernel_rfl) fun a hf => H.v hf hs (.bool true) 23 rfl rfl (by kernel_rfl) (V.pure rfl) fun a hf => H.done (by kernel_rfl) (X.then_ ?_)
     exact ⟨true, h, ((((hf.nil.cons (hf.get 58 _ rfl)).cons (hf.get 4 _ rfl)).cons (hf.get 3 _ rfl)).cons (hf.get 2 _ rfl)), hs⟩
    ·replace h := h.2 hc
     refine H.v hf hs (iv y2) 20 rfl rfl (by kernel_rfl) (V.pure rfl) fun a hf => H.v hf hs (iv y5) 21 rfl rfl (by kernel_rfl) (V.pure rfl) fun a hf => H.v hf hs (.bool (y2 != y5)) 22 rfl rfl (by kernel_rfl) (V.pure rfl) fun a hf => H.v hf hs (.bool (y2 != y5)) 23 rfl rfl (by kernel_rfl) (V.pure rfl) fun a hf => H.done (by kernel_rfl) (X.then_ ?_)
     exact ⟨(y2 != y5), h, ((((hf.nil.cons (hf.get 58 _ rfl)).cons (hf.get 4 _ rfl)).cons (hf.get 3 _ rfl)).cons (hf.get 2 _ rfl)), hs⟩
end Go.Proofs.YtihjaehkdgdenaaGreatDoor

/- Chapter texts of ours, as far as the claim needs them. -/
import Derived.Test.YtihjaehkdgdenaaGreatDoorRtG
namespace Go.Proofs.YtihjaehkdgdenaaGreatDoor
open Tryz Go Go.RowKit
set_option linter.unusedVariables false
set_option linter.unusedSectionVars false
set_option maxHeartbeats 1000000
set_option linter.unusedSimpArgs false
def M_route_axis_k3 (Q : Int → Prop) (c3 : Bool) : Prop :=
  cnd c3 (Q 3) (Q 0)
def M_route_axis_k2 (a_ : Cell) (b : Cell) (Q : Int → Prop) (c2 : Bool) : Prop :=
  cnd c2 (Q 2) (cnd ((max (w64 (a_.Layer - b.Layer)) (w64 (b.Layer - a_.Layer))) == 1) (M_route_axis_k3 Q ((w64 ((max (w64 (a_.X - b.X)) (w64 (b.X - a_.X))) + (max (w64 (a_.Y - b.Y)) (w64 (b.Y - a_.Y))))) == 0)) (M_route_axis_k3 Q false))
def M_route_axis_k1 (a_ : Cell) (b : Cell) (Q : Int → Prop) (c1 : Bool) : Prop :=
  cnd c1 (Q 1) (cnd ((max (w64 (a_.Y - b.Y)) (w64 (b.Y - a_.Y))) == 1) (M_route_axis_k2 a_ b Q ((w64 ((max (w64 (a_.X - b.X)) (w64 (b.X - a_.X))) + (max (w64 (a_.Layer - b.Layer)) (w64 (b.Layer - a_.Layer))))) == 0)) (M_route_axis_k2 a_ b Q false))
def M_route_axis (a_ : Cell) (b : Cell) (Q : Int → Prop) : Prop :=
  cnd ((max (w64 (a_.X - b.X)) (w64 (b.X - a_.X))) == 1) (M_route_axis_k1 a_ b Q ((w64 ((max (w64 (a_.Y - b.Y)) (w64 (b.Y - a_.Y))) + (max (w64 (a_.Layer - b.Layer)) (w64 (b.Layer - a_.Layer))))) == 0)) (M_route_axis_k1 a_ b Q false)
theorem R_route_axis (a_ : Cell) (b : Cell) (w0 : World)  (Q : Int → Prop) (h : M_route_axis a_ b Q) :
  Ret Tryz.prog 60 #[.agg #[iv a_.X, iv a_.Y, iv a_.Layer], .agg #[iv b.X, iv b.Y, iv b.Layer]] w0 fun v w' => ∃ (r0 : Int), v = iv r0 ∧ Q r0 ∧ Sat w0 none_ [] w' := by
 refine fn_enter func60 rfl ntmps60 rfl (fs := [(0, .agg #[iv a_.X, iv a_.Y, iv a_.Layer]), (1, .agg #[iv b.X, iv b.Y, iv b.Layer])]) rfl (fun a hf => ?_)
 have hs := Sat.start w0 none_
 unfold M_route_axis at h
 refine X.l (S.box hf hs rfl rfl rfl [iv a_.X, iv a_.Y, iv a_.Layer] rfl rfl rfl (fun g1 a w hf hs => S.box hf hs rfl rfl rfl [iv b.X, iv b.Y, iv b.Layer] rfl rfl rfl (fun g2 a w hf hs => S.q hf hs (iv 0) rfl fun a hf => X.n (wp_seq (R.draw mo (by kernel_rfl) hs (D.v hf ((pn g1 0)) rfl (V.fieldBox rfl rfl runUnderlying55 rfl sizeOf3 rfl rfl) fun a hf => D.v hf (iv a_.X) rfl (V.loadBox 1 rfl rfl rfl isAgg3 sizeOf3 rfl rfl) fun a hf => D.v hf ((pn g2 0)) rfl (V.fieldBox rfl rfl runUnderlying55 rfl sizeOf3 rfl rfl) fun a hf => D.v hf (iv b.X) rfl (V.loadBox 0 rfl rfl rfl isAgg3 sizeOf3 rfl rfl) fun a hf => D.p hf (iv (w64 (a_.X - b.X))) rfl rfl fun a hf => D.v hf ((pn g2 0)) rfl (V.fieldBox rfl rfl runUnderlying55 rfl sizeOf3 rfl rfl) fun a hf => ?_))))))
 refine D.v hf (iv b.X) rfl (V.loadBox 0 rfl rfl rfl isAgg3 sizeOf3 rfl rfl) fun a hf => D.v hf ((pn g1 0)) rfl (V.fieldBox rfl rfl runUnderlying55 rfl sizeOf3 rfl rfl) fun a hf => D.v hf (iv a_.X) rfl (V.loadBox 1 rfl rfl rfl isAgg3 sizeOf3 rfl rfl) fun a hf => D.p hf (iv (w64 (b.X - a_.X))) rfl rfl fun a hf => D.v hf (iv (max (w64 (a_.X - b.X)) (w64 (b.X - a_.X)))) rfl (V.max2 rfl rfl rfl) fun a hf => D.v hf ((pn g1 1)) rfl (V.fieldBox rfl rfl runUnderlying55 rfl sizeOf3 rfl rfl) fun a hf => D.v hf (iv a_.Y) rfl (V.loadBox 1 rfl rfl rfl isAgg3 sizeOf3 rfl rfl) fun a hf => D.v hf ((pn g2 1)) rfl (V.fieldBox rfl rfl runUnderlying55 rfl sizeOf3 rfl rfl) fun a hf => D.v hf (iv b.Y) rfl (V.loadBox 0 rfl rfl rfl isAgg3 sizeOf3 rfl rfl) fun a hf => D.p hf (iv (w64 (a_.Y - b.Y))) rfl rfl fun a hf => D.v hf ((pn g2 1)) rfl (V.fieldBox rfl rfl runUnderlying55 rfl sizeOf3 rfl rfl) fun a hf => D.v hf (iv b.Y) rfl (V.loadBox 0 rfl rfl rfl isAgg3 sizeOf3 rfl rfl) fun a hf => ?_
 refine D.v hf ((pn g1 1)) rfl (V.fieldBox rfl rfl runUnderlying55 rfl sizeOf3 rfl rfl) fun a hf => D.v hf (iv a_.Y) rfl (V.loadBox 1 rfl rfl rfl isAgg3 sizeOf3 rfl rfl) fun a hf => D.p hf (iv (w64 (b.Y - a_.Y))) rfl rfl fun a hf => D.v hf (iv (max (w64 (a_.Y - b.Y)) (w64 (b.Y - a_.Y)))) rfl (V.max2 rfl rfl rfl) fun a hf => D.v hf ((pn g1 2)) rfl (V.fieldBox rfl rfl runUnderlying55 rfl sizeOf3 rfl rfl) fun a hf => D.v hf (iv a_.Layer) rfl (V.loadBox 1 rfl rfl rfl isAgg3 sizeOf3 rfl rfl) fun a hf => D.v hf ((pn g2 2)) rfl (V.fieldBox rfl rfl runUnderlying55 rfl sizeOf3 rfl rfl) fun a hf => D.v hf (iv b.Layer) rfl (V.loadBox 0 rfl rfl rfl isAgg3 sizeOf3 rfl rfl) fun a hf => D.p hf (iv (w64 (a_.Layer - b.Layer))) rfl rfl fun a hf => D.v hf ((pn g2 2)) rfl (V.fieldBox rfl rfl runUnderlying55 rfl sizeOf3 rfl rfl) fun a hf => D.v hf (iv b.Layer) rfl (V.loadBox 0 rfl rfl rfl isAgg3 sizeOf3 rfl rfl) fun a hf => D.v hf ((pn g1 2)) rfl (V.fieldBox rfl rfl runUnderlying55 rfl sizeOf3 rfl rfl) fun a hf => ?_
 refine D.v hf (iv a_.Layer) rfl (V.loadBox 1 rfl rfl rfl isAgg3 sizeOf3 rfl rfl) fun a hf => D.p hf (iv (w64 (b.Layer - a_.Layer))) rfl rfl fun a hf => D.v hf (iv (max (w64 (a_.Layer - b.Layer)) (w64 (b.Layer - a_.Layer)))) rfl (V.max2 rfl rfl rfl) fun a hf => D.p hf (iv (max (w64 (a_.X - b.X)) (w64 (b.X - a_.X)))) rfl rfl fun a hf => D.p hf (iv (max (w64 (a_.Y - b.Y)) (w64 (b.Y - a_.Y)))) rfl rfl fun a hf => D.p hf (iv (max (w64 (a_.Layer - b.Layer)) (w64 (b.Layer - a_.Layer)))) rfl rfl fun a hf => D.done (fun w hs => X.then_ (wp_seq (wp_block (wp_seq ?_))))
 refine C.cut (J := fun a w => ∃ (c1 : Bool), M_route_axis_k1 a_ b Q c1 ∧ FrOk 68 [(5, iv (max (w64 (a_.X - b.X)) (w64 (b.X - a_.X)))), (6, iv (max (w64 (a_.Y - b.Y)) (w64 (b.Y - a_.Y)))), (7, iv (max (w64 (a_.Layer - b.Layer)) (w64 (b.Layer - a_.Layer)))), (41, .bool c1)] a ∧ Sat w0 none_ [hbox g2 55 [iv b.X, iv b.Y, iv b.Layer], hbox g1 55 [iv a_.X, iv a_.Y, iv a_.Layer]] w) ?_ ?_
 ·rintro a w ⟨c1, h, hf, hs⟩
  unfold M_route_axis_k1 at h
  refine C.cond hf (b := c1) rfl (fun hc => ?_) (fun hc => ?_)
  ·replace h := h.1 hc
   refine X.l (S.q hf hs (iv 1) rfl fun a hf => X.n (wp_ret (X.blk_ret (X.then_ret ?_))))
   exact L.ret hf (run_results1 results60 (ResIs.tmp hf rfl)) ⟨1, rfl, h, hs.nil⟩
  ·replace h := h.2 hc
   refine wp_seq ?_
   refine C.cut (J := fun a w => ∃ (c2 : Bool), M_route_axis_k2 a_ b Q c2 ∧ FrOk 68 [(5, iv (max (w64 (a_.X - b.X)) (w64 (b.X - a_.X)))), (6, iv (max (w64 (a_.Y - b.Y)) (w64 (b.Y - a_.Y)))), (7, iv (max (w64 (a_.Layer - b.Layer)) (w64 (b.Layer - a_.Layer)))), (50, .bool c2)] a ∧ Sat w0 none_ [hbox g2 55 [iv b.X, iv b.Y, iv b.Layer], hbox g1 55 [iv a_.X, iv a_.Y, iv a_.Layer]] w) ?_ ?_
   ·rintro a w ⟨c2, h, hf, hs⟩
    unfold M_route_axis_k2 at h
    refine C.cond hf (b := c2) rfl (fun hc => ?_) (fun hc => ?_)
    ·replace h := h.1 hc
     refine X.l (S.q hf hs (iv 2) rfl fun a hf => X.n (wp_ret (X.blk_ret (X.then_ret ?_))))
     exact L.ret hf (run_results1 results60 (ResIs.tmp hf rfl)) ⟨2, rfl, h, hs.nil⟩
    ·replace h := h.2 hc
     refine wp_seq ?_
     refine C.cut (J := fun a w => ∃ (c3 : Bool), M_route_axis_k3 Q c3 ∧ FrOk 68 [(59, .bool c3)] a ∧ Sat w0 none_ [hbox g2 55 [iv b.X, iv b.Y, iv b.Layer], hbox g1 55 [iv a_.X, iv a_.Y, iv a_.Layer]] w) ?_ ?_
     ·rintro a w ⟨c3, h, hf, hs⟩
      unfold M_route_axis_k3 at h
      refine C.cond hf (b := c3) rfl (fun hc => ?_) (fun hc => ?_)
      ·replace h := h.1 hc
       refine X.l (S.q hf hs (iv 3) rfl fun a hf => X.n (wp_ret (X.blk_ret (X.then_ret ?_))))
       exact L.ret hf (run_results1 results60 (ResIs.tmp hf rfl)) ⟨3, rfl, h, hs.nil⟩
      ·replace h := h.2 hc
       refine wp_skip (X.blk (X.then_ (X.l (S.q hf hs (iv 0) rfl fun a hf => X.n (wp_ret ?_)))))
       exact L.ret hf (run_results1 results60 (ResIs.tmp hf rfl)) ⟨0, rfl, h, hs.nil⟩
     ·skip
      refine R.list (S.q hf hs (iv (max (w64 (a_.Layer - b.Layer)) (w64 (b.Layer - a_.Layer)))) rfl fun a hf => S.q hf hs (.bool ((max (w64 (a_.Layer - b.Layer)) (w64 (b.Layer - a_.Layer))) == 1)) rfl fun a hf => ?_)
      refine S.split hf hs (b := (max (w64 (a_.Layer - b.Layer)) (w64 (b.Layer - a_.Layer))) == 1) rfl rfl rfl (V.pure rfl) (fun hc a hf => ?_) (fun hc a hf => ?_)
      ·replace h := h.1 hc
       refine S.q hf hs (iv (max (w64 (a_.X - b.X)) (w64 (b.X - a_.X)))) rfl fun a hf => S.q hf hs (iv (max (w64 (a_.Y - b.Y)) (w64 (b.Y - a_.Y)))) rfl fun a hf => S.q hf hs (iv (w64 ((max (w64 (a_.X - b.X)) (w64 (b.X - a_.X))) + (max (w64 (a_.Y - b.Y)) (w64 (b.Y - a_.Y)))))) rfl fun a hf => S.q hf hs (.bool ((w64 ((max (w64 (a_.X - b.X)) (w64 (b.X - a_.X))) + (max (w64 (a_.Y - b.Y)) (w64 (b.Y - a_.Y))))) == 0)) rfl fun a hf => S.q hf hs (.bool ((w64 ((max (w64 (a_.X - b.X)) (w64 (b.X - a_.X))) + (max (w64 (a_.Y - b.Y)) (w64 (b.Y - a_.Y))))) == 0)) rfl fun a hf => S.q hf hs (.bool ((w64 ((max (w64 (a_.X - b.X)) (w64 (b.X - a_.X))) + (max (w64 (a_.Y - b.Y)) (w64 (b.Y - a_.Y))))) == 0)) rfl fun a hf => X.n ?_
       exact ⟨((w64 ((max (w64 (a_.X - b.X)) (w64 (b.X - a_.X))) + (max (w64 (a_.Y - b.Y)) (w64 (b.Y - a_.Y))))) == 0), h, (hf.nil.cons (hf.get 59 _ rfl)), hs⟩
      ·replace h := h.2 hc
       refine S.k hf rfl fun a hf => S.k hf rfl fun a hf => S.k hf rfl fun a hf => S.k hf rfl fun a hf => S.q hf hs (.bool false) rfl fun a hf => S.q hf hs (.bool false) rfl fun a hf => X.n ?_
       exact ⟨false, h, (hf.nil.cons (hf.get 59 _ rfl)), hs⟩
   ·skip
    refine R.list (S.q hf hs (iv (max (w64 (a_.Y - b.Y)) (w64 (b.Y - a_.Y)))) rfl fun a hf => S.q hf hs (.bool ((max (w64 (a_.Y - b.Y)) (w64 (b.Y - a_.Y))) == 1)) rfl fun a hf => ?_)
    refine S.split hf hs (b := (max (w64 (a_.Y - b.Y)) (w64 (b.Y - a_.Y))) == 1) rfl rfl rfl (V.pure rfl) (fun hc a hf => ?_) (fun hc a hf => ?_)
    ·replace h := h.1 hc
     refine S.q hf hs (iv (max (w64 (a_.X - b.X)) (w64 (b.X - a_.X)))) rfl fun a hf => S.q hf hs (iv (max (w64 (a_.Layer - b.Layer)) (w64 (b.Layer - a_.Layer)))) rfl fun a hf => S.q hf hs (iv (w64 ((max (w64 (a_.X - b.X)) (w64 (b.X - a_.X))) + (max (w64 (a_.Layer - b.Layer)) (w64 (b.Layer - a_.Layer)))))) rfl fun a hf => S.q hf hs (.bool ((w64 ((max (w64 (a_.X - b.X)) (w64 (b.X - a_.X))) + (max (w64 (a_.Layer - b.Layer)) (w64 (b.Layer - a_.Layer))))) == 0)) rfl fun a hf => S.q hf hs (.bool ((w64 ((max (w64 (a_.X - b.X)) (w64 (b.X - a_.X))) + (max (w64 (a_.Layer - b.Layer)) (w64 (b.Layer - a_.Layer))))) == 0)) rfl fun a hf => S.q hf hs (.bool ((w64 ((max (w64 (a_.X - b.X)) (w64 (b.X - a_.X))) + (max (w64 (a_.Layer - b.Layer)) (w64 (b.Layer - a_.Layer))))) == 0)) rfl fun a hf => X.n ?_
     exact ⟨((w64 ((max (w64 (a_.X - b.X)) (w64 (b.X - a_.X))) + (max (w64 (a_.Layer - b.Layer)) (w64 (b.Layer - a_.Layer))))) == 0), h, ((((hf.nil.cons (hf.get 50 _ rfl)).cons (hf.get 7 _ rfl)).cons (hf.get 6 _ rfl)).cons (hf.get 5 _ rfl)), hs⟩
    ·replace h := h.2 hc
     refine S.k hf rfl fun a hf => S.k hf rfl fun a hf => S.k hf rfl fun a hf => S.k hf rfl fun a hf => S.q hf hs (.bool false) rfl fun a hf => S.q hf hs (.bool false) rfl fun a hf => X.n ?_
     exact ⟨false, h, ((((hf.nil.cons (hf.get 50 _ rfl)).cons (hf.get 7 _ rfl)).cons (hf.get 6 _ rfl)).cons (hf.get 5 _ rfl)), hs⟩
 ·skip
  refine R.list (S.q hf hs (iv (max (w64 (a_.X - b.X)) (w64 (b.X - a_.X)))) rfl fun a hf => S.q hf hs (.bool ((max (w64 (a_.X - b.X)) (w64 (b.X - a_.X))) == 1)) rfl fun a hf => ?_)
  refine S.split hf hs (b := (max (w64 (a_.X - b.X)) (w64 (b.X - a_.X))) == 1) rfl rfl rfl (V.pure rfl) (fun hc a hf => ?_) (fun hc a hf => ?_)
  ·replace h := h.1 hc
   refine S.q hf hs (iv (max (w64 (a_.Y - b.Y)) (w64 (b.Y - a_.Y)))) rfl fun a hf => S.q hf hs (iv (max (w64 (a_.Layer - b.Layer)) (w64 (b.Layer - a_.Layer)))) rfl fun a hf => S.q hf hs (iv (w64 ((max (w64 (a_.Y - b.Y)) (w64 (b.Y - a_.Y))) + (max (w64 (a_.Layer - b.Layer)) (w64 (b.Layer - a_.Layer)))))) rfl fun a hf => S.q hf hs (.bool ((w64 ((max (w64 (a_.Y - b.Y)) (w64 (b.Y - a_.Y))) + (max (w64 (a_.Layer - b.Layer)) (w64 (b.Layer - a_.Layer))))) == 0)) rfl fun a hf => S.q hf hs (.bool ((w64 ((max (w64 (a_.Y - b.Y)) (w64 (b.Y - a_.Y))) + (max (w64 (a_.Layer - b.Layer)) (w64 (b.Layer - a_.Layer))))) == 0)) rfl fun a hf => S.q hf hs (.bool ((w64 ((max (w64 (a_.Y - b.Y)) (w64 (b.Y - a_.Y))) + (max (w64 (a_.Layer - b.Layer)) (w64 (b.Layer - a_.Layer))))) == 0)) rfl fun a hf => X.n ?_
   exact ⟨((w64 ((max (w64 (a_.Y - b.Y)) (w64 (b.Y - a_.Y))) + (max (w64 (a_.Layer - b.Layer)) (w64 (b.Layer - a_.Layer))))) == 0), h, ((((hf.nil.cons (hf.get 41 _ rfl)).cons (hf.get 7 _ rfl)).cons (hf.get 6 _ rfl)).cons (hf.get 5 _ rfl)), hs⟩
  ·replace h := h.2 hc
   refine S.k hf rfl fun a hf => S.k hf rfl fun a hf => S.k hf rfl fun a hf => S.k hf rfl fun a hf => S.q hf hs (.bool false) rfl fun a hf => S.q hf hs (.bool false) rfl fun a hf => X.n ?_
   exact ⟨false, h, ((((hf.nil.cons (hf.get 41 _ rfl)).cons (hf.get 7 _ rfl)).cons (hf.get 6 _ rfl)).cons (hf.get 5 _ rfl)), hs⟩
def M_route_checkWay_k2 (Q : Int → Prop) (xk1 : Cell) (m2 : List (Cell × Bool)) (next1 : List (Cell × Bool) → Prop) (c1 : Bool) : Prop :=
  cnd c1 (Q 3) (cnd ((mget m2 xk1).getD false) (Q 7) (next1 (mput m2 xk1 true)))
def M_route_checkWay_L1 (g : Grid) (no : (List Bool)) (w_ : (List Cell)) (Q : Int → Prop) (k1 : Nat) (xk1 : Cell) (m2 : List (Cell × Bool)) (next1 : List (Cell × Bool) → Prop) : Prop :=
  M_route_isCell g xk1 fun y1 => cnd (!y1) (Q 1) (M_route_number g xk1 fun y2 => idx no y2 fun x1 => cnd x1 (Q 14) (cnd (decide ((k1 : Int) > 0)) (idx w_ (w64 ((k1 : Int) - 1)) fun x2 => M_route_axis x2 xk1 fun y3 => M_route_checkWay_k2 Q xk1 m2 next1 (y3 == 0)) (M_route_checkWay_k2 Q xk1 m2 next1 false)))
def M_route_checkWay (g : Grid) (no : (List Bool)) (w_ : (List Cell)) (Q : Int → Prop) : Prop :=
  cnd ((w_.length : Int) == 0) (Q 9) (cnd (decide ((w_.length : Int) > 40000)) (Q 2) (forIn' (fun k x (s : List (Cell × Bool)) next => M_route_checkWay_L1 g no w_ Q k x s (fun m2 => next m2)) (fun (s : List (Cell × Bool)) => (fun (m2 : List (Cell × Bool)) => Q 0) s) w_ 0 ([] : List (Cell × Bool))))
theorem R_route_checkWay (g : Grid) (no : (List Bool)) (w_ : (List Cell)) (w0 : World) (g_BlockedA : Option Addr) (g_BlockedC : Nat) (hv_g_Blocked : View w0 (old w0 none_) g_BlockedA g_BlockedC g.Blocked) (noA : Option Addr) (noC : Nat) (hv_no : View w0 (old w0 none_) noA noC no) (w_A : Option Addr) (w_C : Nat) (hv_w_ : View w0 (old w0 none_) w_A w_C w_) (Q : Int → Prop) (h : M_route_checkWay g no w_ Q) :
  Ret Tryz.prog 25 #[.agg #[iv g.W, iv g.H, iv g.Layers, .slice g_BlockedA g.Blocked.length g_BlockedC], .slice noA no.length noC, .slice w_A w_.length w_C] w0 fun v w' => ∃ (r0 : Int), v = iv r0 ∧ Q r0 ∧ Sat w0 none_ [] w' := by
 refine fn_enter func25 rfl ntmps25 rfl (fs := [(0, .agg #[iv g.W, iv g.H, iv g.Layers, .slice g_BlockedA g.Blocked.length g_BlockedC]), (1, .slice noA no.length noC), (2, .slice w_A w_.length w_C)]) rfl (fun a hf => ?_)
 have hs := Sat.start w0 none_
 unfold M_route_checkWay at h
 refine X.l (S.box hf hs rfl rfl rfl [iv g.W, iv g.H, iv g.Layers, .slice g_BlockedA g.Blocked.length g_BlockedC] rfl rfl rfl (fun g1 a w hf hs => S.q hf hs (iv 0) rfl fun a hf => X.n (wp_seq (X.l (S.q hf hs (.slice w_A w_.length w_C) rfl fun a hf => S.v hf hs (iv (w_.length : Int)) rfl (V.len rfl rfl runUnderlying22) fun a hf => S.q hf hs (.bool ((w_.length : Int) == 0)) rfl fun a hf => X.n ?_)))))
 refine C.cond hf (b := (w_.length : Int) == 0) rfl (fun hc => ?_) (fun hc => ?_)
 ·replace h := h.1 hc
  refine X.l (S.q hf hs (iv 9) rfl fun a hf => X.n (wp_ret (X.then_ret ?_)))
  exact L.ret hf (run_results1 results25 (ResIs.tmp hf rfl)) ⟨9, rfl, h, hs.nil⟩
 ·replace h := h.2 hc
  refine wp_skip (X.then_ (wp_seq (X.l (S.q hf hs (.slice w_A w_.length w_C) rfl fun a hf => S.v hf hs (iv (w_.length : Int)) rfl (V.len rfl rfl runUnderlying22) fun a hf => S.q hf hs (.bool (decide ((w_.length : Int) > 40000))) rfl fun a hf => X.n ?_))))
  refine C.cond hf (b := decide ((w_.length : Int) > 40000)) rfl (fun hc => ?_) (fun hc => ?_)
  ·replace h := h.1 hc
   refine X.l (S.q hf hs (iv 2) rfl fun a hf => X.n (wp_ret (X.then_ret ?_)))
   exact L.ret hf (run_results1 results25 (ResIs.tmp hf rfl)) ⟨2, rfl, h, hs.nil⟩
  ·replace h := h.2 hc
   refine wp_skip (X.then_ (X.l (S.makeMap hf hs rfl rfl rfl ek55 ek4 rfl (fun g2 a w hf hs => S.q hf hs (.map (some g2)) rfl fun a hf => X.n (wp_seq (X.l (S.q hf hs (.slice w_A w_.length w_C) rfl fun a hf => S.v hf hs (iv (w_.length : Int)) rfl (V.len rfl rfl runUnderlying22) fun a hf => S.q hf hs (iv 0) rfl fun a hf => X.n (wp_block ?_))))))))
   have hlenk1 := hv_w_.len64
   refine C.range (fun (ll : List Cell) a w => ∃ (k1 : Nat) (m2 : List (Cell × Bool)), w_.drop k1 = ll ∧ k1 + ll.length = w_.length ∧ forIn' (fun k x (s : List (Cell × Bool)) next => M_route_checkWay_L1 g no w_ Q k x s (fun m2 => next m2)) (fun (s : List (Cell × Bool)) => (fun (m2 : List (Cell × Bool)) => Q 0) s) ll k1 m2 ∧ FrOk 56 [(19, iv (k1 : Int)), (1, .slice noA no.length noC), (2, .slice w_A w_.length w_C), (3, (pn g1 0)), (7, .map (some g2)), (17, .slice w_A w_.length w_C), (18, iv (w_.length : Int))] a ∧ Sat w0 none_ [hmap g2 ek55 ek4 m2, hbox g1 24 [iv g.W, iv g.H, iv g.Layers, .slice g_BlockedA g.Blocked.length g_BlockedC]] w) w_ ⟨0, ([] : List (Cell × Bool)), rfl, Nat.zero_add _, h, (((((((hf.nil.cons (hf.get 18 _ rfl)).cons (hf.get 17 _ rfl)).cons (hf.get 7 _ rfl)).cons (hf.get 3 _ rfl)).cons (hf.get 2 _ rfl)).cons (hf.get 1 _ rfl)).cons (hf.get 19 _ rfl)), hs⟩ ?_
   clear h hf hs
   rintro llk1 a w ⟨k1, m2, hlk1, hkk1, h, hf, hs⟩
   cases llk1 with
   | nil =>
    have hc := range_done hkk1
    replace h : (fun (m2 : List (Cell × Bool)) => Q 0) m2 := h
    refine X.l (S.v hf hs (.bool false) rfl (V.cmp false rfl rfl rfl rfl hc) fun a hf => X.n (wp_seq (C.no hf rfl (wp_exit (X.then_exit (X.then_exit (X.blk_exit (X.then_ (X.l (S.q hf hs (iv 0) rfl fun a hf => X.n (wp_ret ?_)))))))))))
    exact L.ret hf (run_results1 results25 (ResIs.tmp hf rfl)) ⟨0, rfl, h, hs.nil⟩
   | cons xk1 llk1 =>
    have hltk1 := range_lt hkk1; have hc := range_go hkk1; have hxk1 := range_get hlk1
    obtain ⟨next1, hnext1⟩ : ∃ X : List (Cell × Bool) → Prop, X = (fun m2 => forIn' (fun k x (s : List (Cell × Bool)) next => M_route_checkWay_L1 g no w_ Q k x s (fun m2 => next m2)) (fun (s : List (Cell × Bool)) => (fun (m2 : List (Cell × Bool)) => Q 0) s) llk1 (k1 + 1) m2) := ⟨_, rfl⟩
    replace h : M_route_checkWay_L1 g no w_ Q k1 xk1 m2 next1 := by rw [hnext1]; exact h
    unfold M_route_checkWay_L1 at h
    refine X.l (S.v hf hs (.bool true) rfl (V.cmp true rfl rfl rfl rfl hc) fun a hf => X.n (wp_seq (C.yes hf rfl (wp_skip (X.then_ (wp_seq (wp_block (X.l (S.q hf hs (iv (k1 : Int)) rfl fun a hf => S.v hf hs (elemPtr w_A (k1 * 3)) rfl (V.index rfl rfl rfl runUnderlying22 sizeOf55 (hv_w_.some_ (lt_of_get hxk1)) (Int.natCast_nonneg _) (lt_of_get hxk1) rfl) fun a hf => S.v hf hs (.agg #[iv xk1.X, iv xk1.Y, iv xk1.Layer]) rfl (V.loadEl (off := 0) (Ag.args _ _ _) (hv_w_.flat hxk1) rfl rfl rfl isAgg55 sizeOf55 rfl rfl) fun a hf => S.alloc hf hs rfl rfl rfl [iv 0, iv 0, iv 0] rfl zeroValue55 rfl (fun g3 a w hf hs => S.q hf hs (iv (k1 : Int)) rfl fun a hf => S.storeBox 0 hf hs rfl rfl [iv xk1.X, iv xk1.Y, iv xk1.Layer] [iv xk1.X, iv xk1.Y, iv xk1.Layer] rfl rfl rfl rfl rfl sizeOf55 rfl rfl rfl rfl (fun a w hf hs => X.n (wp_seq (wp_block (X.l ?_))))))))))))))
    refine S.v hf hs (.agg #[iv g.W, iv g.H, iv g.Layers, .slice g_BlockedA g.Blocked.length g_BlockedC]) rfl (V.loadBox 2 rfl rfl rfl isAgg24 sizeOf24 rfl rfl) fun a hf => S.v hf hs (.agg #[iv xk1.X, iv xk1.Y, iv xk1.Layer]) rfl (V.loadBox 0 rfl rfl rfl isAgg55 sizeOf55 rfl rfl) fun a hf => S.call hf rfl rfl rfl (call_fn (vs := [.agg #[iv g.W, iv g.H, iv g.Layers, .slice g_BlockedA g.Blocked.length g_BlockedC], .agg #[iv xk1.X, iv xk1.Y, iv xk1.Layer]]) rfl rfl rfl call67) (R_route_isCell g xk1 _ g_BlockedA g_BlockedC ((Ag.args _ _ _).view hv_g_Blocked hs) _ h) (fun v a w' hf hr => ?_)
    obtain ⟨y1, rfl, h2, hs2⟩ := hr
    replace h := h2; replace hs := hs.call hs2; clear h2 hs2
    refine S.q hf hs (.bool (!y1)) rfl fun a hf => S.q hf hs (.bool (!y1)) rfl fun a hf => X.n ?_
    refine C.cond hf (b := !y1) rfl (fun hc => ?_) (fun hc => ?_)
    ·replace h := h.1 hc
     refine X.l (S.q hf hs (iv 1) rfl fun a hf => X.n (wp_ret (X.blk_ret (X.then_ret (X.blk_ret (X.then_ret (X.then_ret (X.blk_ret (X.then_ret ?_)))))))))
     exact L.ret hf (run_results1 results25 (ResIs.tmp hf rfl)) ⟨1, rfl, h, hs.nil⟩
    ·replace h := h.2 hc
     refine X.l (S.q hf hs (.slice noA no.length noC) rfl fun a hf => S.v hf hs (.agg #[iv g.W, iv g.H, iv g.Layers, .slice g_BlockedA g.Blocked.length g_BlockedC]) rfl (V.loadBox 2 rfl rfl rfl isAgg24 sizeOf24 rfl rfl) fun a hf => S.v hf hs (.agg #[iv xk1.X, iv xk1.Y, iv xk1.Layer]) rfl (V.loadBox 0 rfl rfl rfl isAgg55 sizeOf55 rfl rfl) fun a hf => S.call hf rfl rfl rfl (call_fn (vs := [.agg #[iv g.W, iv g.H, iv g.Layers, .slice g_BlockedA g.Blocked.length g_BlockedC], .agg #[iv xk1.X, iv xk1.Y, iv xk1.Layer]]) rfl rfl rfl call32) (R_route_number g xk1 _ g_BlockedA g_BlockedC ((Ag.args _ _ _).view hv_g_Blocked hs) _ h) (fun v a w' hf hr => ?_))
     obtain ⟨y2, rfl, h2, hs2⟩ := hr
     replace h := h2; replace hs := hs.call hs2; clear h2 hs2
     obtain ⟨h0x1, x1, hx1, h⟩ := h
     refine S.v hf hs (elemPtr noA (y2.toNat * 1)) rfl (V.index rfl rfl rfl runUnderlying49 sizeOf4 (hv_no.some_ (lt_of_get hx1)) h0x1 (lt_of_get hx1) rfl) fun a hf => S.v hf hs (.bool x1) rfl (V.loadEl (off := 0) (Ag.args _ _ _) (hv_no.flat hx1) rfl rfl rfl isAgg4 sizeOf4 rfl rfl) fun a hf => S.q hf hs (.bool x1) rfl fun a hf => X.n ?_
     refine C.cond hf (b := x1) rfl (fun hc => ?_) (fun hc => ?_)
     ·replace h := h.1 hc
      refine X.l (S.q hf hs (iv 14) rfl fun a hf => X.n (wp_ret (X.blk_ret (X.then_ret (X.blk_ret (X.then_ret (X.then_ret (X.blk_ret (X.then_ret ?_)))))))))
      exact L.ret hf (run_results1 results25 (ResIs.tmp hf rfl)) ⟨14, rfl, h, hs.nil⟩
     ·replace h := h.2 hc
      refine wp_seq ?_
      refine C.cut (J := fun a w => ∃ (c1 : Bool), M_route_checkWay_k2 Q xk1 m2 next1 c1 ∧ FrOk 56 [(1, .slice noA no.length noC), (2, .slice w_A w_.length w_C), (3, (pn g1 0)), (7, .map (some g2)), (9, (pn g3 0)), (17, .slice w_A w_.length w_C), (18, iv (w_.length : Int)), (19, iv (k1 : Int)), (36, .bool c1)] a ∧ Sat w0 none_ [hbox g3 55 [iv xk1.X, iv xk1.Y, iv xk1.Layer], hmap g2 ek55 ek4 m2, hbox g1 24 [iv g.W, iv g.H, iv g.Layers, .slice g_BlockedA g.Blocked.length g_BlockedC]] w) ?_ ?_
      ·rintro a w ⟨c1, h, hf, hs⟩
       unfold M_route_checkWay_k2 at h
       refine C.cond hf (b := c1) rfl (fun hc => ?_) (fun hc => ?_)
       ·replace h := h.1 hc
        refine X.l (S.q hf hs (iv 3) rfl fun a hf => X.n (wp_ret (X.blk_ret (X.then_ret (X.blk_ret (X.then_ret (X.then_ret (X.blk_ret (X.then_ret ?_)))))))))
        exact L.ret hf (run_results1 results25 (ResIs.tmp hf rfl)) ⟨3, rfl, h, hs.nil⟩
       ·replace h := h.2 hc
        refine X.l (S.q hf hs (.map (some g2)) rfl fun a hf => S.v hf hs (.agg #[iv xk1.X, iv xk1.Y, iv xk1.Layer]) rfl (V.loadBox 0 rfl rfl rfl isAgg55 sizeOf55 rfl rfl) fun a hf => S.v hf hs (.bool ((mget m2 xk1).getD false)) rfl (V.lookup 1 rfl (k := xk1) (u := ((mget m2 xk1).getD false)) (z := false) rfl rfl rfl runUnderlying56 key55 zeroValue4 rfl rfl) fun a hf => S.q hf hs (.bool ((mget m2 xk1).getD false)) rfl fun a hf => X.n ?_)
        refine C.cond hf (b := ((mget m2 xk1).getD false)) rfl (fun hc => ?_) (fun hc => ?_)
        ·replace h := h.1 hc
         refine X.l (S.q hf hs (iv 7) rfl fun a hf => X.n (wp_ret (X.blk_ret (X.then_ret (X.blk_ret (X.then_ret (X.then_ret (X.blk_ret (X.then_ret ?_)))))))))
         exact L.ret hf (run_results1 results25 (ResIs.tmp hf rfl)) ⟨7, rfl, h, hs.nil⟩
        ·replace h := h.2 hc
         refine wp_skip (X.blk (X.then_ (R.list (S.q hf hs (.map (some g2)) rfl fun a hf => S.v hf hs (.agg #[iv xk1.X, iv xk1.Y, iv xk1.Layer]) rfl (V.loadBox 0 rfl rfl rfl isAgg55 sizeOf55 rfl rfl) fun a hf => S.mapUpdate 1 hf hs rfl rfl rfl xk1 true rfl rfl rfl rfl runUnderlying56 key55 (fun a w hf hs => R.nil (X.blk (X.then_ (R.list (S.v hf hs (iv ((k1 + 1 : Nat) : Int)) rfl (V.incr rfl rfl rfl hltk1 hlenk1) fun a hf => S.q hf hs (iv ((k1 + 1 : Nat) : Int)) rfl fun a hf => X.n ?_)))))))))
         exact ⟨xk1, llk1, rfl, k1 + 1, (mput m2 xk1 true), range_drop hlk1, range_len hkk1, (by rw [hnext1] at h; exact h), (((((((hf.nil.cons (hf.get 18 _ rfl)).cons (hf.get 17 _ rfl)).cons (hf.get 7 _ rfl)).cons (hf.get 3 _ rfl)).cons (hf.get 2 _ rfl)).cons (hf.get 1 _ rfl)).cons (hf.get 19 _ rfl)), hs.drop⟩
      ·skip
       refine H.start (S := Sat w0 none_ [hbox g3 55 [iv xk1.X, iv xk1.Y, iv xk1.Layer], hmap g2 ek55 ek4 m2, hbox g1 24 [iv g.W, iv g.H, iv g.Layers, .slice g_BlockedA g.Blocked.length g_BlockedC]]) mo ?_
       replace hs := hs.drew
       refine H.v hf hs (iv (k1 : Int)) 0 rfl rfl (by kernel_rfl) (V.pure rfl) fun a hf => H.v hf hs (.bool (decide ((k1 : Int) > 0))) 1 rfl rfl (by kernel_rfl) (V.pure rfl) fun a hf => ?_
       refine H.split hf hs (b := decide ((k1 : Int) > 0)) (i := 2) rfl rfl rfl rfl (by kernel_rfl) (by kernel_rfl) (by kernel_rfl) (V.pure rfl) (fun hc a hf => ?_) (fun hc a hf => ?_)
       ·replace h := h.1 hc
        refine H.v hf hs (.slice w_A w_.length w_C) 3 rfl rfl (by kernel_rfl) (V.pure rfl) fun a hf => H.v hf hs (iv (k1 : Int)) 4 rfl rfl (by kernel_rfl) (V.pure rfl) fun a hf => H.v hf hs (iv (w64 ((k1 : Int) - 1))) 5 rfl rfl (by kernel_rfl) (V.pure rfl) fun a hf => ?_
        obtain ⟨h0x2, x2, hx2, h⟩ := h
        refine H.v hf hs (elemPtr w_A ((w64 ((k1 : Int) - 1)).toNat * 3)) 6 rfl rfl (by kernel_rfl) (V.index rfl rfl rfl runUnderlying22 sizeOf55 (hv_w_.some_ (lt_of_get hx2)) h0x2 (lt_of_get hx2) rfl) fun a hf => H.v hf hs (.agg #[iv x2.X, iv x2.Y, iv x2.Layer]) 7 rfl rfl (by kernel_rfl) (V.loadEl (off := 0) (Ag.args _ _ _) (hv_w_.flat hx2) rfl rfl rfl isAgg55 sizeOf55 rfl rfl) fun a hf => H.v hf hs (.agg #[iv xk1.X, iv xk1.Y, iv xk1.Layer]) 8 rfl rfl (by kernel_rfl) (V.loadBox 0 rfl rfl rfl isAgg55 sizeOf55 rfl rfl) fun a hf => H.one (i := 9) rfl (by kernel_rfl) (S.call hf rfl rfl rfl (call_fn (vs := [.agg #[iv x2.X, iv x2.Y, iv x2.Layer], .agg #[iv xk1.X, iv xk1.Y, iv xk1.Layer]]) rfl rfl rfl call60) (R_route_axis x2 xk1 _  _ h) (fun v a w' hf hr => ?_))
        obtain ⟨y3, rfl, h2, hs2⟩ := hr
        replace h := h2; replace hs := hs.call hs2; clear h2 hs2
        refine X.n (⟨hs, (H.v hf hs (.bool (y3 == 0)) 10 rfl rfl (by kernel_rfl) (V.pure rfl) fun a hf => H.v hf hs (.bool (y3 == 0)) 11 rfl rfl (by kernel_rfl) (V.pure rfl) fun a hf => H.v hf hs (.bool (y3 == 0)) 12 rfl rfl (by kernel_rfl) (V.pure rfl) fun a hf => H.done (by kernel_rfl) (X.then_ ?_))⟩)
        exact ⟨(y3 == 0), h, (((((((((hf.nil.cons (hf.get 36 _ rfl)).cons (hf.get 19 _ rfl)).cons (hf.get 18 _ rfl)).cons (hf.get 17 _ rfl)).cons (hf.get 9 _ rfl)).cons (hf.get 7 _ rfl)).cons (hf.get 3 _ rfl)).cons (hf.get 2 _ rfl)).cons (hf.get 1 _ rfl)), hs⟩
       ·replace h := h.2 hc
        refine H.k hf hs 3 rfl rfl (by kernel_rfl) fun a hf => H.k hf hs 4 rfl rfl (by kernel_rfl) fun a hf => H.k hf hs 5 rfl rfl (by kernel_rfl) fun a hf => H.k hf hs 6 rfl rfl (by kernel_rfl) fun a hf => H.k hf hs 7 rfl rfl (by kernel_rfl) fun a hf => H.k hf hs 8 rfl rfl (by kernel_rfl) fun a hf => H.one (i := 9) rfl (by kernel_rfl) (S.k hf rfl fun a hf => X.n (⟨hs, (H.k hf hs 10 rfl rfl (by kernel_rfl) fun a hf => H.v hf hs (.bool false) 11 rfl rfl (by kernel_rfl) (V.pure rfl) fun a hf => ?_)⟩))
        refine H.v hf hs (.bool false) 12 rfl rfl (by kernel_rfl) (V.pure rfl) fun a hf => H.done (by kernel_rfl) (X.then_ ?_)
        exact ⟨false, h, (((((((((hf.nil.cons (hf.get 36 _ rfl)).cons (hf.get 19 _ rfl)).cons (hf.get 18 _ rfl)).cons (hf.get 17 _ rfl)).cons (hf.get 9 _ rfl)).cons (hf.get 7 _ rfl)).cons (hf.get 3 _ rfl)).cons (hf.get 2 _ rfl)).cons (hf.get 1 _ rfl)), hs⟩

-- no etchhouse/route.CheckWay
end Go.Proofs.YtihjaehkdgdenaaGreatDoor

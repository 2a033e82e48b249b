/- Chapter texts of ours, as far as the claim needs them. -/
import Derived.Test.YtihjaehkdgdenaaGreatDoorTypes
import Derived.Test.YtihjaehkdgdenaaGreatDoorShort
namespace Go.Proofs.YtihjaehkdgdenaaGreatDoor
open Tryz Go Go.RowKit
set_option linter.unusedVariables false
set_option linter.unusedSectionVars false
set_option linter.unusedSimpArgs false
set_option maxHeartbeats 1000000
def within (n lo hi : Int) : Bool := decide (lo ≤ n) && decide (n ≤ hi)
def M_route_within (n : Int) (lo : Int) (hi : Int) (Q : Bool → Prop) : Prop :=
  cnd (decide (n ≥ lo)) (Q (decide (n ≤ hi))) (Q false)
theorem R_route_within (n : Int) (lo : Int) (hi : Int) (w0 : World)  (Q : Bool → Prop) (h : M_route_within n lo hi Q) :
  Ret Tryz.prog 38 #[iv n, iv lo, iv hi] w0 fun v w' => ∃ (r0 : Bool), v = .bool r0 ∧ Q r0 ∧ Sat w0 none_ [] w' := by
 refine fn_enter func38 rfl ntmps38 rfl (fs := [(0, iv n), (1, iv lo), (2, iv hi)]) rfl (fun a hf => ?_)
 have hs := Sat.start w0 none_
 unfold M_route_within at h
 refine X.l (S.q hf hs (.bool false) rfl fun a hf => X.n (X.l (S.q hf hs (iv n) rfl fun a hf => S.q hf hs (iv lo) rfl fun a hf => S.q hf hs (.bool (decide (n ≥ lo))) rfl fun a hf => ?_)))
 refine S.split hf hs (b := decide (n ≥ lo)) rfl rfl rfl (V.pure rfl) (fun hc a hf => ?_) (fun hc a hf => ?_)
 ·replace h := h.1 hc
  refine S.q hf hs (iv n) rfl fun a hf => S.q hf hs (iv hi) rfl fun a hf => S.q hf hs (.bool (decide (n ≤ hi))) rfl fun a hf => S.q hf hs (.bool (decide (n ≤ hi))) rfl fun a hf => S.q hf hs (.bool (decide (n ≤ hi))) rfl fun a hf => X.n (wp_ret ?_)
  exact L.ret hf (run_results1 results38 (ResIs.tmp hf rfl)) ⟨(decide (n ≤ hi)), rfl, h, hs.nil⟩
 ·replace h := h.2 hc
  refine S.k hf rfl fun a hf => S.k hf rfl fun a hf => S.k hf rfl fun a hf => S.q hf hs (.bool false) rfl fun a hf => S.q hf hs (.bool false) rfl fun a hf => X.n (wp_ret ?_)
  exact L.ret hf (run_results1 results38 (ResIs.tmp hf rfl)) ⟨false, rfl, h, hs.nil⟩
theorem E_route_within (n lo hi : Int) : M_route_within n lo hi (· = within n lo hi) := by
  unfold M_route_within within; constructor <;> intro h <;> simp_all <;> omega
theorem C_route_within (n : Int) (lo : Int) (hi : Int) (w0 : World)  : Ret Tryz.prog 38 #[.int .i64 n, .int .i64 lo, .int .i64 hi] w0 fun v w' => v = .bool (within n lo hi) ∧ Sat w0 none_ [] w' :=
  (R_route_within n lo hi w0  (· = (within n lo hi)) (E_route_within n lo hi)).mono fun v w' ⟨r0, hv, hr, hs⟩ => ⟨by subst hr; exact hv, hs⟩
def M_route_isCell (g : Grid) (c : Cell) (Q : Bool → Prop) : Prop :=
  cnd (within c.X 0 (w64 (g.W - 1))) (cnd (within c.Y 0 (w64 (g.H - 1))) (Q (within c.Layer 0 (w64 (g.Layers - 1)))) (Q false)) (Q false)
theorem R_route_isCell (g : Grid) (c : Cell) (w0 : World) (g_BlockedA : Option Addr) (g_BlockedC : Nat) (hv_g_Blocked : View w0 (old w0 none_) g_BlockedA g_BlockedC g.Blocked) (Q : Bool → Prop) (h : M_route_isCell g c Q) :
  Ret Tryz.prog 67 #[.agg #[iv g.W, iv g.H, iv g.Layers, .slice g_BlockedA g.Blocked.length g_BlockedC], .agg #[iv c.X, iv c.Y, iv c.Layer]] w0 fun v w' => ∃ (r0 : Bool), v = .bool r0 ∧ Q r0 ∧ Sat w0 none_ [] w' := by
 refine fn_enter func67 rfl ntmps67 rfl (fs := [(0, .agg #[iv g.W, iv g.H, iv g.Layers, .slice g_BlockedA g.Blocked.length g_BlockedC]), (1, .agg #[iv c.X, iv c.Y, iv c.Layer])]) rfl (fun a hf => ?_)
 have hs := Sat.start w0 none_
 unfold M_route_isCell at h
 refine X.l (S.box hf hs rfl rfl rfl [iv g.W, iv g.H, iv g.Layers, .slice g_BlockedA g.Blocked.length g_BlockedC] rfl rfl rfl (fun g1 a w hf hs => S.box hf hs rfl rfl rfl [iv c.X, iv c.Y, iv c.Layer] rfl rfl rfl (fun g2 a w hf hs => S.q hf hs (.bool false) rfl fun a hf => X.n (X.l (S.v hf hs ((pn g2 0)) rfl (V.fieldBox rfl rfl runUnderlying55 rfl sizeOf3 rfl rfl) fun a hf => S.v hf hs (iv c.X) rfl (V.loadBox 0 rfl rfl rfl isAgg3 sizeOf3 rfl rfl) fun a hf => S.v hf hs ((pn g1 0)) rfl (V.fieldBox rfl rfl runUnderlying24 rfl sizeOf3 rfl rfl) fun a hf => S.v hf hs (iv g.W) rfl (V.loadBox 1 rfl rfl rfl isAgg3 sizeOf3 rfl rfl) fun a hf => S.q hf hs (iv (w64 (g.W - 1))) rfl fun a hf => S.callv hf rfl rfl rfl (call_fn (vs := [iv c.X, iv 0, iv (w64 (g.W - 1))]) rfl rfl rfl call38) (C_route_within c.X 0 (w64 (g.W - 1)) _ ) (fun a w hf hs' => ?_))))))
 replace hs := hs.call hs'; clear hs'
 refine S.split hf hs (b := (within c.X 0 (w64 (g.W - 1)))) rfl rfl rfl (V.pure rfl) (fun hc a hf => ?_) (fun hc a hf => ?_)
 ·replace h := h.1 hc
  refine S.v hf hs ((pn g2 1)) rfl (V.fieldBox rfl rfl runUnderlying55 rfl sizeOf3 rfl rfl) fun a hf => S.v hf hs (iv c.Y) rfl (V.loadBox 0 rfl rfl rfl isAgg3 sizeOf3 rfl rfl) fun a hf => S.v hf hs ((pn g1 1)) rfl (V.fieldBox rfl rfl runUnderlying24 rfl sizeOf3 rfl rfl) fun a hf => S.v hf hs (iv g.H) rfl (V.loadBox 1 rfl rfl rfl isAgg3 sizeOf3 rfl rfl) fun a hf => S.q hf hs (iv (w64 (g.H - 1))) rfl fun a hf => S.callv hf rfl rfl rfl (call_fn (vs := [iv c.Y, iv 0, iv (w64 (g.H - 1))]) rfl rfl rfl call38) (C_route_within c.Y 0 (w64 (g.H - 1)) _ ) (fun a w hf hs' => ?_)
  replace hs := hs.call hs'; clear hs'
  refine S.q hf hs (.bool (within c.Y 0 (w64 (g.H - 1)))) rfl fun a hf => ?_
  refine S.split hf hs (b := (within c.Y 0 (w64 (g.H - 1)))) rfl rfl rfl (V.pure rfl) (fun hc a hf => ?_) (fun hc a hf => ?_)
  ·replace h := h.1 hc
   refine S.v hf hs ((pn g2 2)) rfl (V.fieldBox rfl rfl runUnderlying55 rfl sizeOf3 rfl rfl) fun a hf => S.v hf hs (iv c.Layer) rfl (V.loadBox 0 rfl rfl rfl isAgg3 sizeOf3 rfl rfl) fun a hf => S.v hf hs ((pn g1 2)) rfl (V.fieldBox rfl rfl runUnderlying24 rfl sizeOf3 rfl rfl) fun a hf => S.v hf hs (iv g.Layers) rfl (V.loadBox 1 rfl rfl rfl isAgg3 sizeOf3 rfl rfl) fun a hf => S.q hf hs (iv (w64 (g.Layers - 1))) rfl fun a hf => S.callv hf rfl rfl rfl (call_fn (vs := [iv c.Layer, iv 0, iv (w64 (g.Layers - 1))]) rfl rfl rfl call38) (C_route_within c.Layer 0 (w64 (g.Layers - 1)) _ ) (fun a w hf hs' => ?_)
   replace hs := hs.call hs'; clear hs'
   refine S.q hf hs (.bool (within c.Layer 0 (w64 (g.Layers - 1)))) rfl fun a hf => S.q hf hs (.bool (within c.Layer 0 (w64 (g.Layers - 1)))) rfl fun a hf => X.n (wp_ret ?_)
   exact L.ret hf (run_results1 results67 (ResIs.tmp hf rfl)) ⟨(within c.Layer 0 (w64 (g.Layers - 1))), rfl, h, hs.nil⟩
  ·replace h := h.2 hc
   refine S.k hf rfl fun a hf => S.k hf rfl fun a hf => S.k hf rfl fun a hf => S.k hf rfl fun a hf => S.k hf rfl fun a hf => S.k hf rfl fun a hf => S.q hf hs (.bool false) rfl fun a hf => S.q hf hs (.bool false) rfl fun a hf => X.n (wp_ret ?_)
   exact L.ret hf (run_results1 results67 (ResIs.tmp hf rfl)) ⟨false, rfl, h, hs.nil⟩
 ·replace h := h.2 hc
  refine S.k hf rfl fun a hf => S.k hf rfl fun a hf => S.k hf rfl fun a hf => S.k hf rfl fun a hf => S.k hf rfl fun a hf => S.k hf rfl fun a hf => S.q hf hs (.bool false) rfl fun a hf => S.q hf hs (.bool false) rfl fun a hf => S.k hf rfl fun a hf => S.k hf rfl fun a hf => S.k hf rfl fun a hf => S.k hf rfl fun a hf => ?_
  refine S.k hf rfl fun a hf => S.k hf rfl fun a hf => S.q hf hs (.bool false) rfl fun a hf => S.q hf hs (.bool false) rfl fun a hf => X.n (wp_ret ?_)
  exact L.ret hf (run_results1 results67 (ResIs.tmp hf rfl)) ⟨false, rfl, h, hs.nil⟩
def M_route_number (g : Grid) (c : Cell) (Q : Int → Prop) : Prop :=
  Q (w64 ((w64 ((w64 ((w64 (c.Layer * g.H)) + c.Y)) * g.W)) + c.X))
theorem R_route_number (g : Grid) (c : Cell) (w0 : World) (g_BlockedA : Option Addr) (g_BlockedC : Nat) (hv_g_Blocked : View w0 (old w0 none_) g_BlockedA g_BlockedC g.Blocked) (Q : Int → Prop) (h : M_route_number g c Q) :
  Ret Tryz.prog 32 #[.agg #[iv g.W, iv g.H, iv g.Layers, .slice g_BlockedA g.Blocked.length g_BlockedC], .agg #[iv c.X, iv c.Y, iv c.Layer]] w0 fun v w' => ∃ (r0 : Int), v = iv r0 ∧ Q r0 ∧ Sat w0 none_ [] w' := by
 refine fn_enter func32 rfl ntmps32 rfl (fs := [(0, .agg #[iv g.W, iv g.H, iv g.Layers, .slice g_BlockedA g.Blocked.length g_BlockedC]), (1, .agg #[iv c.X, iv c.Y, iv c.Layer])]) rfl (fun a hf => ?_)
 have hs := Sat.start w0 none_
 unfold M_route_number at h
 refine X.l (S.box hf hs rfl rfl rfl [iv g.W, iv g.H, iv g.Layers, .slice g_BlockedA g.Blocked.length g_BlockedC] rfl rfl rfl (fun g1 a w hf hs => S.box hf hs rfl rfl rfl [iv c.X, iv c.Y, iv c.Layer] rfl rfl rfl (fun g2 a w hf hs => S.q hf hs (iv 0) rfl fun a hf => X.n (X.l (S.v hf hs ((pn g2 2)) rfl (V.fieldBox rfl rfl runUnderlying55 rfl sizeOf3 rfl rfl) fun a hf => S.v hf hs (iv c.Layer) rfl (V.loadBox 0 rfl rfl rfl isAgg3 sizeOf3 rfl rfl) fun a hf => S.v hf hs ((pn g1 1)) rfl (V.fieldBox rfl rfl runUnderlying24 rfl sizeOf3 rfl rfl) fun a hf => S.v hf hs (iv g.H) rfl (V.loadBox 1 rfl rfl rfl isAgg3 sizeOf3 rfl rfl) fun a hf => S.q hf hs (iv (w64 (c.Layer * g.H))) rfl fun a hf => S.v hf hs ((pn g2 1)) rfl (V.fieldBox rfl rfl runUnderlying55 rfl sizeOf3 rfl rfl) fun a hf => S.v hf hs (iv c.Y) rfl (V.loadBox 0 rfl rfl rfl isAgg3 sizeOf3 rfl rfl) fun a hf => ?_)))))
 refine S.q hf hs (iv (w64 ((w64 (c.Layer * g.H)) + c.Y))) rfl fun a hf => S.v hf hs ((pn g1 0)) rfl (V.fieldBox rfl rfl runUnderlying24 rfl sizeOf3 rfl rfl) fun a hf => S.v hf hs (iv g.W) rfl (V.loadBox 1 rfl rfl rfl isAgg3 sizeOf3 rfl rfl) fun a hf => S.q hf hs (iv (w64 ((w64 ((w64 (c.Layer * g.H)) + c.Y)) * g.W))) rfl fun a hf => S.v hf hs ((pn g2 0)) rfl (V.fieldBox rfl rfl runUnderlying55 rfl sizeOf3 rfl rfl) fun a hf => S.v hf hs (iv c.X) rfl (V.loadBox 0 rfl rfl rfl isAgg3 sizeOf3 rfl rfl) fun a hf => S.q hf hs (iv (w64 ((w64 ((w64 ((w64 (c.Layer * g.H)) + c.Y)) * g.W)) + c.X))) rfl fun a hf => S.q hf hs (iv (w64 ((w64 ((w64 ((w64 (c.Layer * g.H)) + c.Y)) * g.W)) + c.X))) rfl fun a hf => X.n (wp_ret ?_)
 exact L.ret hf (run_results1 results32 (ResIs.tmp hf rfl)) ⟨(w64 ((w64 ((w64 ((w64 (c.Layer * g.H)) + c.Y)) * g.W)) + c.X)), rfl, h, hs.nil⟩
def M_route_cell (g : Grid) (n : Int) (Q : Cell → Prop) : Prop :=
  must (g.W ≠ 0) (must (g.W ≠ 0) (must (g.H ≠ 0) (must (g.W ≠ 0) (must (g.H ≠ 0) (Q (⟨n.tmod g.W, (w64 (n.tdiv g.W)).tmod g.H, w64 ((w64 (n.tdiv g.W)).tdiv g.H)⟩ : Cell))))))
theorem R_route_cell (g : Grid) (n : Int) (w0 : World) (g_BlockedA : Option Addr) (g_BlockedC : Nat) (hv_g_Blocked : View w0 (old w0 none_) g_BlockedA g_BlockedC g.Blocked) (Q : Cell → Prop) (h : M_route_cell g n Q) :
  Ret Tryz.prog 33 #[.agg #[iv g.W, iv g.H, iv g.Layers, .slice g_BlockedA g.Blocked.length g_BlockedC], iv n] w0 fun v w' => ∃ (r0 : Cell), v = .agg #[iv r0.X, iv r0.Y, iv r0.Layer] ∧ Q r0 ∧ Sat w0 none_ [] w' := by
 refine fn_enter func33 rfl ntmps33 rfl (fs := [(0, .agg #[iv g.W, iv g.H, iv g.Layers, .slice g_BlockedA g.Blocked.length g_BlockedC]), (1, iv n)]) rfl (fun a hf => ?_)
 have hs := Sat.start w0 none_
 unfold M_route_cell at h
 refine X.l (S.box hf hs rfl rfl rfl [iv g.W, iv g.H, iv g.Layers, .slice g_BlockedA g.Blocked.length g_BlockedC] rfl rfl rfl (fun g1 a w hf hs => S.alloc hf hs rfl rfl rfl [iv 0, iv 0, iv 0] rfl zeroValue55 rfl (fun g2 a w hf hs => X.n (wp_seq (M.start 19 (Sat w0 none_ [hbox g2 55 [iv 0, iv 0, iv 0], hbox g1 24 [iv g.W, iv g.H, iv g.Layers, .slice g_BlockedA g.Blocked.length g_BlockedC]]) mo ?_)))))
 replace hs := hs.drew
 refine M.v hf hs (iv n) 0 rfl rfl (by kernel_rfl) (V.pure rfl) fun a hf => M.v hf hs ((pn g1 0)) 1 rfl rfl (by kernel_rfl) (V.fieldBox rfl rfl runUnderlying24 rfl sizeOf3 rfl rfl) fun a hf => M.v hf hs (iv g.W) 2 rfl rfl (by kernel_rfl) (V.loadBox 1 rfl rfl rfl isAgg3 sizeOf3 rfl rfl) fun a hf => ?_
 obtain ⟨hne, h⟩ := h
 refine M.v hf hs (iv (n.tmod g.W)) 3 rfl rfl (by kernel_rfl) (V.rem rfl rfl rfl hne) fun a hf => M.v hf hs (iv n) 4 rfl rfl (by kernel_rfl) (V.pure rfl) fun a hf => M.v hf hs ((pn g1 0)) 5 rfl rfl (by kernel_rfl) (V.fieldBox rfl rfl runUnderlying24 rfl sizeOf3 rfl rfl) fun a hf => M.v hf hs (iv g.W) 6 rfl rfl (by kernel_rfl) (V.loadBox 1 rfl rfl rfl isAgg3 sizeOf3 rfl rfl) fun a hf => ?_
 obtain ⟨hne, h⟩ := h
 refine M.v hf hs (iv (w64 (n.tdiv g.W))) 7 rfl rfl (by kernel_rfl) (V.quo rfl rfl rfl hne) fun a hf => M.v hf hs ((pn g1 1)) 8 rfl rfl (by kernel_rfl) (V.fieldBox rfl rfl runUnderlying24 rfl sizeOf3 rfl rfl) fun a hf => M.v hf hs (iv g.H) 9 rfl rfl (by kernel_rfl) (V.loadBox 1 rfl rfl rfl isAgg3 sizeOf3 rfl rfl) fun a hf => ?_
 obtain ⟨hne, h⟩ := h
 refine M.v hf hs (iv ((w64 (n.tdiv g.W)).tmod g.H)) 10 rfl rfl (by kernel_rfl) (V.rem rfl rfl rfl hne) fun a hf => M.v hf hs (iv n) 11 rfl rfl (by kernel_rfl) (V.pure rfl) fun a hf => M.v hf hs ((pn g1 0)) 12 rfl rfl (by kernel_rfl) (V.fieldBox rfl rfl runUnderlying24 rfl sizeOf3 rfl rfl) fun a hf => M.v hf hs (iv g.W) 13 rfl rfl (by kernel_rfl) (V.loadBox 1 rfl rfl rfl isAgg3 sizeOf3 rfl rfl) fun a hf => ?_
 obtain ⟨hne, h⟩ := h
 refine M.v hf hs (iv (w64 (n.tdiv g.W))) 14 rfl rfl (by kernel_rfl) (V.quo rfl rfl rfl hne) fun a hf => M.v hf hs ((pn g1 1)) 15 rfl rfl (by kernel_rfl) (V.fieldBox rfl rfl runUnderlying24 rfl sizeOf3 rfl rfl) fun a hf => M.v hf hs (iv g.H) 16 rfl rfl (by kernel_rfl) (V.loadBox 1 rfl rfl rfl isAgg3 sizeOf3 rfl rfl) fun a hf => ?_
 obtain ⟨hne, h⟩ := h
 refine M.v hf hs (iv (w64 ((w64 (n.tdiv g.W)).tdiv g.H))) 17 rfl rfl (by kernel_rfl) (V.quo rfl rfl rfl hne) fun a hf => M.v hf hs (.agg #[iv (n.tmod g.W), iv ((w64 (n.tdiv g.W)).tmod g.H), iv (w64 ((w64 (n.tdiv g.W)).tdiv g.H))]) 18 rfl rfl (by kernel_rfl) (V.build (places := #[(0, 1), (1, 1), (2, 1)]) rfl zeroValue55 runUnderlying55 (by intro w; simp [sizeOf3]) rfl rfl) fun a hf => M.last (i := 19) rfl (by kernel_rfl) (by kernel_rfl) (S.storeBox 0 hf hs rfl rfl [iv (n.tmod g.W), iv ((w64 (n.tdiv g.W)).tmod g.H), iv (w64 ((w64 (n.tdiv g.W)).tdiv g.H))] [iv (n.tmod g.W), iv ((w64 (n.tdiv g.W)).tmod g.H), iv (w64 ((w64 (n.tdiv g.W)).tdiv g.H))] rfl rfl rfl rfl rfl sizeOf55 rfl rfl rfl rfl (fun a w hf hs => X.n (M.done (by kernel_rfl) (X.then_ (wp_ret ?_)))))
 have hsR := hs
 exact L.ret hf (run_results1 results33 (ResIs.box hf hsR 0 rfl rfl isAgg55 sizeOf55 rfl rfl)) ⟨(⟨n.tmod g.W, (w64 (n.tdiv g.W)).tmod g.H, w64 ((w64 (n.tdiv g.W)).tdiv g.H)⟩ : Cell), rfl, h, hs.nil⟩
def M_route_CheckGrid_k4 (Q : Int → Prop) (next1 : Prop) (c3 : Bool) : Prop :=
  cnd c3 (Q 8) (next1)
def M_route_CheckGrid_L1 (g : Grid) (Q : Int → Prop) (k3 : Nat) (xk3 : Cell)  (next1 : Prop) : Prop :=
  M_route_isCell g xk3 fun y1 => cnd (!y1) (Q 1) (cnd (decide ((k3 : Int) > 0)) (idx g.Blocked (w64 ((k3 : Int) - 1)) fun x1 => M_route_number g xk3 fun y2 => M_route_number g x1 fun y3 => M_route_CheckGrid_k4 Q next1 (decide (y2 ≤ y3))) (M_route_CheckGrid_k4 Q next1 false))
def M_route_CheckGrid_k2 (g : Grid) (Q : Int → Prop) (c2 : Bool) : Prop :=
  cnd c2 (Q 2) (forIn' (fun k x (s : Unit) next => M_route_CheckGrid_L1 g Q k x (next ())) (fun (s : Unit) => Q 0) g.Blocked 0 ())
def M_route_CheckGrid_k1 (g : Grid) (Q : Int → Prop) (c1 : Bool) : Prop :=
  cnd c1 (Q 1) (cnd (decide (w64 ((w64 (g.W * g.H)) * g.Layers) > 40000)) (M_route_CheckGrid_k2 g Q true) (M_route_CheckGrid_k2 g Q (decide ((g.Blocked.length : Int) > 40000))))
def M_route_CheckGrid (g : Grid) (Q : Int → Prop) : Prop :=
  cnd (!(within g.W 1 200)) (M_route_CheckGrid_k1 g Q true) (cnd (!(within g.H 1 200)) (M_route_CheckGrid_k1 g Q true) (M_route_CheckGrid_k1 g Q (!(within g.Layers 1 8))))
theorem R_route_CheckGrid (g : Grid) (w0 : World) (g_BlockedA : Option Addr) (g_BlockedC : Nat) (hv_g_Blocked : View w0 (old w0 none_) g_BlockedA g_BlockedC g.Blocked) (Q : Int → Prop) (h : M_route_CheckGrid g Q) :
  Ret Tryz.prog 48 #[.agg #[iv g.W, iv g.H, iv g.Layers, .slice g_BlockedA g.Blocked.length g_BlockedC]] w0 fun v w' => ∃ (r0 : Int), v = iv r0 ∧ Q r0 ∧ Sat w0 none_ [] w' := by
 refine fn_enter func48 rfl ntmps48 rfl (fs := [(0, .agg #[iv g.W, iv g.H, iv g.Layers, .slice g_BlockedA g.Blocked.length g_BlockedC])]) rfl (fun a hf => ?_)
 have hs := Sat.start w0 none_
 unfold M_route_CheckGrid at h
 refine X.l (S.box hf hs rfl rfl rfl [iv g.W, iv g.H, iv g.Layers, .slice g_BlockedA g.Blocked.length g_BlockedC] rfl rfl rfl (fun g1 a w hf hs => S.q hf hs (iv 0) rfl fun a hf => X.n (wp_seq (wp_seq ?_))))
 refine C.cut (J := fun a w => ∃ (c1 : Bool), M_route_CheckGrid_k1 g Q c1 ∧ FrOk 65 [(1, (pn g1 0)), (20, .bool c1)] a ∧ Sat w0 none_ [hbox g1 24 [iv g.W, iv g.H, iv g.Layers, .slice g_BlockedA g.Blocked.length g_BlockedC]] w) ?_ ?_
 ·rintro a w ⟨c1, h, hf, hs⟩
  unfold M_route_CheckGrid_k1 at h
  refine C.cond hf (b := c1) rfl (fun hc => ?_) (fun hc => ?_)
  ·replace h := h.1 hc
   refine X.l (S.q hf hs (iv 1) rfl fun a hf => X.n (wp_ret (X.then_ret ?_)))
   exact L.ret hf (run_results1 results48 (ResIs.tmp hf rfl)) ⟨1, rfl, h, hs.nil⟩
  ·replace h := h.2 hc
   refine wp_skip (X.then_ (wp_seq (wp_seq ?_)))
   refine C.cut (J := fun a w => ∃ (c2 : Bool), M_route_CheckGrid_k2 g Q c2 ∧ FrOk 65 [(1, (pn g1 0)), (35, .bool c2)] a ∧ Sat w0 none_ [hbox g1 24 [iv g.W, iv g.H, iv g.Layers, .slice g_BlockedA g.Blocked.length g_BlockedC]] w) ?_ ?_
   ·rintro a w ⟨c2, h, hf, hs⟩
    unfold M_route_CheckGrid_k2 at h
    refine C.cond hf (b := c2) rfl (fun hc => ?_) (fun hc => ?_)
    ·replace h := h.1 hc
     refine X.l (S.q hf hs (iv 2) rfl fun a hf => X.n (wp_ret (X.then_ret ?_)))
     exact L.ret hf (run_results1 results48 (ResIs.tmp hf rfl)) ⟨2, rfl, h, hs.nil⟩
    ·replace h := h.2 hc
     refine wp_skip (X.then_ (wp_seq (X.l (S.v hf hs ((pn g1 3)) rfl (V.fieldBox rfl rfl runUnderlying24 rfl sizeOf22 rfl rfl) fun a hf => S.v hf hs (.slice g_BlockedA g.Blocked.length g_BlockedC) rfl (V.loadBox 0 rfl rfl rfl isAgg22 sizeOf22 rfl rfl) fun a hf => S.v hf hs (iv (g.Blocked.length : Int)) rfl (V.len rfl rfl runUnderlying22) fun a hf => S.q hf hs (iv 0) rfl fun a hf => X.n (wp_block ?_)))))
     have hlenk3 := hv_g_Blocked.len64
     refine C.range (fun (ll : List Cell) a w => ∃ (k3 : Nat) , g.Blocked.drop k3 = ll ∧ k3 + ll.length = g.Blocked.length ∧ forIn' (fun k x (s : Unit) next => M_route_CheckGrid_L1 g Q k x (next ())) (fun (s : Unit) => Q 0) ll k3 () ∧ FrOk 65 [(39, iv (k3 : Int)), (1, (pn g1 0)), (37, .slice g_BlockedA g.Blocked.length g_BlockedC), (38, iv (g.Blocked.length : Int))] a ∧ Sat w0 none_ [hbox g1 24 [iv g.W, iv g.H, iv g.Layers, .slice g_BlockedA g.Blocked.length g_BlockedC]] w) g.Blocked ⟨0, rfl, Nat.zero_add _, h, ((((hf.nil.cons (hf.get 38 _ rfl)).cons (hf.get 37 _ rfl)).cons (hf.get 1 _ rfl)).cons (hf.get 39 _ rfl)), hs⟩ ?_
     clear h hf hs
     rintro llk3 a w ⟨k3, hlk3, hkk3, h, hf, hs⟩
     cases llk3 with
     | nil =>
      have hc := range_done hkk3
      replace h : Q 0 := h
      refine X.l (S.v hf hs (.bool false) rfl (V.cmp false rfl rfl rfl rfl hc) fun a hf => X.n (wp_seq (C.no hf rfl (wp_exit (X.then_exit (X.then_exit (X.blk_exit (X.then_ (X.l (S.q hf hs (iv 0) rfl fun a hf => X.n (wp_ret ?_)))))))))))
      exact L.ret hf (run_results1 results48 (ResIs.tmp hf rfl)) ⟨0, rfl, h, hs.nil⟩
     | cons xk3 llk3 =>
      have hltk3 := range_lt hkk3; have hc := range_go hkk3; have hxk3 := range_get hlk3
      obtain ⟨next1, hnext1⟩ : ∃ X : Prop, X = (forIn' (fun k x (s : Unit) next => M_route_CheckGrid_L1 g Q k x (next ())) (fun (s : Unit) => Q 0) llk3 (k3 + 1) ()) := ⟨_, rfl⟩
      replace h : M_route_CheckGrid_L1 g Q k3 xk3  next1 := by rw [hnext1]; exact h
      unfold M_route_CheckGrid_L1 at h
      refine X.l (S.v hf hs (.bool true) rfl (V.cmp true rfl rfl rfl rfl hc) fun a hf => X.n (wp_seq (C.yes hf rfl (wp_skip (X.then_ (wp_seq (wp_block (X.l (S.q hf hs (iv (k3 : Int)) rfl fun a hf => S.v hf hs (elemPtr g_BlockedA (k3 * 3)) rfl (V.index rfl rfl rfl runUnderlying22 sizeOf55 (hv_g_Blocked.some_ (lt_of_get hxk3)) (Int.natCast_nonneg _) (lt_of_get hxk3) rfl) fun a hf => S.v hf hs (.agg #[iv xk3.X, iv xk3.Y, iv xk3.Layer]) rfl (V.loadEl (off := 0) (Ag.args _ _ _) (hv_g_Blocked.flat hxk3) rfl rfl rfl isAgg55 sizeOf55 rfl rfl) fun a hf => S.alloc hf hs rfl rfl rfl [iv 0, iv 0, iv 0] rfl zeroValue55 rfl (fun g2 a w hf hs => S.q hf hs (iv (k3 : Int)) rfl fun a hf => S.storeBox 0 hf hs rfl rfl [iv xk3.X, iv xk3.Y, iv xk3.Layer] [iv xk3.X, iv xk3.Y, iv xk3.Layer] rfl rfl rfl rfl rfl sizeOf55 rfl rfl rfl rfl (fun a w hf hs => X.n (wp_seq (X.l ?_)))))))))))))
      refine S.v hf hs (.agg #[iv g.W, iv g.H, iv g.Layers, .slice g_BlockedA g.Blocked.length g_BlockedC]) rfl (V.loadBox 1 rfl rfl rfl isAgg24 sizeOf24 rfl rfl) fun a hf => S.v hf hs (.agg #[iv xk3.X, iv xk3.Y, iv xk3.Layer]) rfl (V.loadBox 0 rfl rfl rfl isAgg55 sizeOf55 rfl rfl) fun a hf => S.call hf rfl rfl rfl (call_fn (vs := [.agg #[iv g.W, iv g.H, iv g.Layers, .slice g_BlockedA g.Blocked.length g_BlockedC], .agg #[iv xk3.X, iv xk3.Y, iv xk3.Layer]]) rfl rfl rfl call67) (R_route_isCell g xk3 _ g_BlockedA g_BlockedC ((Ag.args _ _ _).view hv_g_Blocked hs) _ h) (fun v a w' hf hr => ?_)
      obtain ⟨y1, rfl, h2, hs2⟩ := hr
      replace h := h2; replace hs := hs.call hs2; clear h2 hs2
      refine S.q hf hs (.bool (!y1)) rfl fun a hf => X.n ?_
      refine C.cond hf (b := !y1) rfl (fun hc => ?_) (fun hc => ?_)
      ·replace h := h.1 hc
       refine X.l (S.q hf hs (iv 1) rfl fun a hf => X.n (wp_ret (X.then_ret (X.blk_ret (X.then_ret (X.then_ret (X.blk_ret (X.then_ret ?_))))))))
       exact L.ret hf (run_results1 results48 (ResIs.tmp hf rfl)) ⟨1, rfl, h, hs.nil⟩
      ·replace h := h.2 hc
       refine wp_skip (X.then_ (wp_seq ?_))
       refine C.cut (J := fun a w => ∃ (c3 : Bool), M_route_CheckGrid_k4 Q next1 c3 ∧ FrOk 65 [(1, (pn g1 0)), (37, .slice g_BlockedA g.Blocked.length g_BlockedC), (38, iv (g.Blocked.length : Int)), (39, iv (k3 : Int)), (63, .bool c3)] a ∧ Sat w0 none_ [hbox g2 55 [iv xk3.X, iv xk3.Y, iv xk3.Layer], hbox g1 24 [iv g.W, iv g.H, iv g.Layers, .slice g_BlockedA g.Blocked.length g_BlockedC]] w) ?_ ?_
       ·rintro a w ⟨c3, h, hf, hs⟩
        unfold M_route_CheckGrid_k4 at h
        refine C.cond hf (b := c3) rfl (fun hc => ?_) (fun hc => ?_)
        ·replace h := h.1 hc
         refine X.l (S.q hf hs (iv 8) rfl fun a hf => X.n (wp_ret (X.blk_ret (X.then_ret (X.then_ret (X.blk_ret (X.then_ret ?_)))))))
         exact L.ret hf (run_results1 results48 (ResIs.tmp hf rfl)) ⟨8, rfl, h, hs.nil⟩
        ·replace h := h.2 hc
         refine wp_skip (X.blk (X.then_ (R.list (S.v hf hs (iv ((k3 + 1 : Nat) : Int)) rfl (V.incr rfl rfl rfl hltk3 hlenk3) fun a hf => S.q hf hs (iv ((k3 + 1 : Nat) : Int)) rfl fun a hf => X.n ?_))))
         exact ⟨xk3, llk3, rfl, k3 + 1, range_drop hlk3, range_len hkk3, (by rw [hnext1] at h; exact h), ((((hf.nil.cons (hf.get 38 _ rfl)).cons (hf.get 37 _ rfl)).cons (hf.get 1 _ rfl)).cons (hf.get 39 _ rfl)), hs.drop⟩
       ·skip
        refine H.start (S := Sat w0 none_ [hbox g2 55 [iv xk3.X, iv xk3.Y, iv xk3.Layer], hbox g1 24 [iv g.W, iv g.H, iv g.Layers, .slice g_BlockedA g.Blocked.length g_BlockedC]]) mo ?_
        replace hs := hs.drew
        refine H.v hf hs (iv (k3 : Int)) 0 rfl rfl (by kernel_rfl) (V.pure rfl) fun a hf => H.v hf hs (.bool (decide ((k3 : Int) > 0))) 1 rfl rfl (by kernel_rfl) (V.pure rfl) fun a hf => ?_
        refine H.split hf hs (b := decide ((k3 : Int) > 0)) (i := 2) rfl rfl rfl rfl (by kernel_rfl) (by kernel_rfl) (by kernel_rfl) (V.pure rfl) (fun hc a hf => ?_) (fun hc a hf => ?_)
        ·replace h := h.1 hc
         refine H.v hf hs (.agg #[iv g.W, iv g.H, iv g.Layers, .slice g_BlockedA g.Blocked.length g_BlockedC]) 3 rfl rfl (by kernel_rfl) (V.loadBox 1 rfl rfl rfl isAgg24 sizeOf24 rfl rfl) fun a hf => H.v hf hs (.agg #[iv xk3.X, iv xk3.Y, iv xk3.Layer]) 4 rfl rfl (by kernel_rfl) (V.loadBox 0 rfl rfl rfl isAgg55 sizeOf55 rfl rfl) fun a hf => H.v hf hs (.agg #[iv g.W, iv g.H, iv g.Layers, .slice g_BlockedA g.Blocked.length g_BlockedC]) 6 rfl rfl (by kernel_rfl) (V.loadBox 1 rfl rfl rfl isAgg24 sizeOf24 rfl rfl) fun a hf => H.v hf hs ((pn g1 3)) 7 rfl rfl (by kernel_rfl) (V.fieldBox rfl rfl runUnderlying24 rfl sizeOf22 rfl rfl) fun a hf => H.v hf hs (.slice g_BlockedA g.Blocked.length g_BlockedC) 8 rfl rfl (by kernel_rfl) (V.loadBox 1 rfl rfl rfl isAgg22 sizeOf22 rfl rfl) fun a hf => H.v hf hs (iv (k3 : Int)) 9 rfl rfl (by kernel_rfl) (V.pure rfl) fun a hf => H.v hf hs (iv (w64 ((k3 : Int) - 1))) 10 rfl rfl (by kernel_rfl) (V.pure rfl) fun a hf => ?_
         obtain ⟨h0x1, x1, hx1, h⟩ := h
         refine H.v hf hs (elemPtr g_BlockedA ((w64 ((k3 : Int) - 1)).toNat * 3)) 11 rfl rfl (by kernel_rfl) (V.index rfl rfl rfl runUnderlying22 sizeOf55 (hv_g_Blocked.some_ (lt_of_get hx1)) h0x1 (lt_of_get hx1) rfl) fun a hf => H.v hf hs (.agg #[iv x1.X, iv x1.Y, iv x1.Layer]) 12 rfl rfl (by kernel_rfl) (V.loadEl (off := 0) (Ag.args _ _ _) (hv_g_Blocked.flat hx1) rfl rfl rfl isAgg55 sizeOf55 rfl rfl) fun a hf => H.one (i := 5) rfl (by kernel_rfl) (S.call hf rfl rfl rfl (call_fn (vs := [.agg #[iv g.W, iv g.H, iv g.Layers, .slice g_BlockedA g.Blocked.length g_BlockedC], .agg #[iv xk3.X, iv xk3.Y, iv xk3.Layer]]) rfl rfl rfl call32) (R_route_number g xk3 _ g_BlockedA g_BlockedC ((Ag.args _ _ _).view hv_g_Blocked hs) _ h) (fun v a w' hf hr => ?_))
         obtain ⟨y2, rfl, h2, hs2⟩ := hr
         replace h := h2; replace hs := hs.call hs2; clear h2 hs2
         refine X.n (⟨hs, (H.one (i := 13) rfl (by kernel_rfl) (S.call hf rfl rfl rfl (call_fn (vs := [.agg #[iv g.W, iv g.H, iv g.Layers, .slice g_BlockedA g.Blocked.length g_BlockedC], .agg #[iv x1.X, iv x1.Y, iv x1.Layer]]) rfl rfl rfl call32) (R_route_number g x1 _ g_BlockedA g_BlockedC ((Ag.args _ _ _).view hv_g_Blocked hs) _ h) (fun v a w' hf hr => ?_)))⟩)
         obtain ⟨y3, rfl, h2, hs2⟩ := hr
         replace h := h2; replace hs := hs.call hs2; clear h2 hs2
         refine X.n (⟨hs, (H.v hf hs (.bool (decide (y2 ≤ y3))) 14 rfl rfl (by kernel_rfl) (V.pure rfl) fun a hf => H.v hf hs (.bool (decide (y2 ≤ y3))) 15 rfl rfl (by kernel_rfl) (V.pure rfl) fun a hf => H.done (by kernel_rfl) (X.then_ ?_))⟩)
         exact ⟨(decide (y2 ≤ y3)), h, (((((hf.nil.cons (hf.get 63 _ rfl)).cons (hf.get 39 _ rfl)).cons (hf.get 38 _ rfl)).cons (hf.get 37 _ rfl)).cons (hf.get 1 _ rfl)), hs⟩
        ·replace h := h.2 hc
         refine H.k hf hs 3 rfl rfl (by kernel_rfl) fun a hf => H.k hf hs 4 rfl rfl (by kernel_rfl) fun a hf => H.k hf hs 6 rfl rfl (by kernel_rfl) fun a hf => H.k hf hs 7 rfl rfl (by kernel_rfl) fun a hf => H.k hf hs 8 rfl rfl (by kernel_rfl) fun a hf => H.k hf hs 9 rfl rfl (by kernel_rfl) fun a hf => H.k hf hs 10 rfl rfl (by kernel_rfl) fun a hf => H.k hf hs 11 rfl rfl (by kernel_rfl) fun a hf => H.k hf hs 12 rfl rfl (by kernel_rfl) fun a hf => H.one (i := 5) rfl (by kernel_rfl) (S.k hf rfl fun a hf => X.n ?_)
         refine ⟨hs, (H.one (i := 13) rfl (by kernel_rfl) (S.k hf rfl fun a hf => X.n (⟨hs, (H.k hf hs 14 rfl rfl (by kernel_rfl) fun a hf => H.v hf hs (.bool false) 15 rfl rfl (by kernel_rfl) (V.pure rfl) fun a hf => H.done (by kernel_rfl) (X.then_ ?_))⟩)))⟩
         exact ⟨false, h, (((((hf.nil.cons (hf.get 63 _ rfl)).cons (hf.get 39 _ rfl)).cons (hf.get 38 _ rfl)).cons (hf.get 37 _ rfl)).cons (hf.get 1 _ rfl)), hs⟩
   ·skip
    refine R.list (S.v hf hs ((pn g1 0)) rfl (V.fieldBox rfl rfl runUnderlying24 rfl sizeOf3 rfl rfl) fun a hf => S.v hf hs (iv g.W) rfl (V.loadBox 0 rfl rfl rfl isAgg3 sizeOf3 rfl rfl) fun a hf => S.v hf hs ((pn g1 1)) rfl (V.fieldBox rfl rfl runUnderlying24 rfl sizeOf3 rfl rfl) fun a hf => S.v hf hs (iv g.H) rfl (V.loadBox 0 rfl rfl rfl isAgg3 sizeOf3 rfl rfl) fun a hf => S.q hf hs (iv (w64 (g.W * g.H))) rfl fun a hf => S.v hf hs ((pn g1 2)) rfl (V.fieldBox rfl rfl runUnderlying24 rfl sizeOf3 rfl rfl) fun a hf => S.v hf hs (iv g.Layers) rfl (V.loadBox 0 rfl rfl rfl isAgg3 sizeOf3 rfl rfl) fun a hf => S.q hf hs (iv (w64 ((w64 (g.W * g.H)) * g.Layers))) rfl fun a hf => S.q hf hs (.bool (decide (w64 ((w64 (g.W * g.H)) * g.Layers) > 40000))) rfl fun a hf => ?_)
    refine S.split hf hs (b := decide (w64 ((w64 (g.W * g.H)) * g.Layers) > 40000)) rfl rfl rfl (V.pure rfl) (fun hc a hf => ?_) (fun hc a hf => ?_)
    ·replace h := h.1 hc
     refine S.k hf rfl fun a hf => S.k hf rfl fun a hf => S.k hf rfl fun a hf => S.k hf rfl fun a hf => S.q hf hs (.bool true) rfl fun a hf => X.n ?_
     exact ⟨true, h, ((hf.nil.cons (hf.get 35 _ rfl)).cons (hf.get 1 _ rfl)), hs⟩
    ·replace h := h.2 hc
     refine S.v hf hs ((pn g1 3)) rfl (V.fieldBox rfl rfl runUnderlying24 rfl sizeOf22 rfl rfl) fun a hf => S.v hf hs (.slice g_BlockedA g.Blocked.length g_BlockedC) rfl (V.loadBox 0 rfl rfl rfl isAgg22 sizeOf22 rfl rfl) fun a hf => S.v hf hs (iv (g.Blocked.length : Int)) rfl (V.len rfl rfl runUnderlying22) fun a hf => S.q hf hs (.bool (decide ((g.Blocked.length : Int) > 40000))) rfl fun a hf => S.q hf hs (.bool (decide ((g.Blocked.length : Int) > 40000))) rfl fun a hf => X.n ?_
     exact ⟨(decide ((g.Blocked.length : Int) > 40000)), h, ((hf.nil.cons (hf.get 35 _ rfl)).cons (hf.get 1 _ rfl)), hs⟩
 ·skip
  refine R.list (S.v hf hs ((pn g1 0)) rfl (V.fieldBox rfl rfl runUnderlying24 rfl sizeOf3 rfl rfl) fun a hf => S.v hf hs (iv g.W) rfl (V.loadBox 0 rfl rfl rfl isAgg3 sizeOf3 rfl rfl) fun a hf => S.callv hf rfl rfl rfl (call_fn (vs := [iv g.W, iv 1, iv 200]) rfl rfl rfl call38) (C_route_within g.W 1 200 _ ) (fun a w hf hs' => ?_))
  replace hs := hs.call hs'; clear hs'
  refine S.q hf hs (.bool (!(within g.W 1 200))) rfl fun a hf => ?_
  refine S.split hf hs (b := !(within g.W 1 200)) rfl rfl rfl (V.pure rfl) (fun hc a hf => ?_) (fun hc a hf => ?_)
  ·replace h := h.1 hc
   refine S.k hf rfl fun a hf => S.k hf rfl fun a hf => S.k hf rfl fun a hf => S.k hf rfl fun a hf => S.q hf hs (.bool true) rfl fun a hf => S.q hf hs (.bool true) rfl fun a hf => S.k hf rfl fun a hf => S.k hf rfl fun a hf => S.k hf rfl fun a hf => S.k hf rfl fun a hf => S.q hf hs (.bool true) rfl fun a hf => X.n ?_
   exact ⟨true, h, ((hf.nil.cons (hf.get 20 _ rfl)).cons (hf.get 1 _ rfl)), hs⟩
  ·replace h := h.2 hc
   refine S.v hf hs ((pn g1 1)) rfl (V.fieldBox rfl rfl runUnderlying24 rfl sizeOf3 rfl rfl) fun a hf => S.v hf hs (iv g.H) rfl (V.loadBox 0 rfl rfl rfl isAgg3 sizeOf3 rfl rfl) fun a hf => S.callv hf rfl rfl rfl (call_fn (vs := [iv g.H, iv 1, iv 200]) rfl rfl rfl call38) (C_route_within g.H 1 200 _ ) (fun a w hf hs' => ?_)
   replace hs := hs.call hs'; clear hs'
   refine S.q hf hs (.bool (!(within g.H 1 200))) rfl fun a hf => S.q hf hs (.bool (!(within g.H 1 200))) rfl fun a hf => ?_
   refine S.split hf hs (b := !(within g.H 1 200)) rfl rfl rfl (V.pure rfl) (fun hc a hf => ?_) (fun hc a hf => ?_)
   ·replace h := h.1 hc
    refine S.k hf rfl fun a hf => S.k hf rfl fun a hf => S.k hf rfl fun a hf => S.k hf rfl fun a hf => S.q hf hs (.bool true) rfl fun a hf => X.n ?_
    exact ⟨true, h, ((hf.nil.cons (hf.get 20 _ rfl)).cons (hf.get 1 _ rfl)), hs⟩
   ·replace h := h.2 hc
    refine S.v hf hs ((pn g1 2)) rfl (V.fieldBox rfl rfl runUnderlying24 rfl sizeOf3 rfl rfl) fun a hf => S.v hf hs (iv g.Layers) rfl (V.loadBox 0 rfl rfl rfl isAgg3 sizeOf3 rfl rfl) fun a hf => S.callv hf rfl rfl rfl (call_fn (vs := [iv g.Layers, iv 1, iv 8]) rfl rfl rfl call38) (C_route_within g.Layers 1 8 _ ) (fun a w hf hs' => ?_)
    replace hs := hs.call hs'; clear hs'
    refine S.q hf hs (.bool (!(within g.Layers 1 8))) rfl fun a hf => S.q hf hs (.bool (!(within g.Layers 1 8))) rfl fun a hf => X.n ?_
    exact ⟨(!(within g.Layers 1 8)), h, ((hf.nil.cons (hf.get 20 _ rfl)).cons (hf.get 1 _ rfl)), hs⟩
def M_route_CheckCosts_k1 (Q : Int → Prop) (c1 : Bool) : Prop :=
  cnd c1 (Q 1) (Q 0)
def M_route_CheckCosts (c : Costs) (Q : Int → Prop) : Prop :=
  cnd (!(within c.Step 1 1000)) (M_route_CheckCosts_k1 Q true) (cnd (!(within c.Via 1 1000)) (M_route_CheckCosts_k1 Q true) (cnd (!(within c.Turn 0 1000)) (M_route_CheckCosts_k1 Q true) (M_route_CheckCosts_k1 Q (!(within c.Against 0 1000)))))
theorem R_route_CheckCosts (c : Costs) (w0 : World)  (Q : Int → Prop) (h : M_route_CheckCosts c Q) :
  Ret Tryz.prog 58 #[.agg #[iv c.Step, iv c.Via, iv c.Turn, iv c.Against]] w0 fun v w' => ∃ (r0 : Int), v = iv r0 ∧ Q r0 ∧ Sat w0 none_ [] w' := by
 refine fn_enter func58 rfl ntmps58 rfl (fs := [(0, .agg #[iv c.Step, iv c.Via, iv c.Turn, iv c.Against])]) rfl (fun a hf => ?_)
 have hs := Sat.start w0 none_
 unfold M_route_CheckCosts at h
 refine X.l (S.box hf hs rfl rfl rfl [iv c.Step, iv c.Via, iv c.Turn, iv c.Against] rfl rfl rfl (fun g1 a w hf hs => S.q hf hs (iv 0) rfl fun a hf => X.n (wp_seq (wp_seq ?_))))
 refine C.cut (J := fun a w => ∃ (c1 : Bool), M_route_CheckCosts_k1 Q c1 ∧ FrOk 25 [(24, .bool c1)] a ∧ Sat w0 none_ [hbox g1 26 [iv c.Step, iv c.Via, iv c.Turn, iv c.Against]] w) ?_ ?_
 ·rintro a w ⟨c1, h, hf, hs⟩
  unfold M_route_CheckCosts_k1 at h
  refine C.cond hf (b := c1) rfl (fun hc => ?_) (fun hc => ?_)
  ·replace h := h.1 hc
   refine X.l (S.q hf hs (iv 1) rfl fun a hf => X.n (wp_ret (X.then_ret ?_)))
   exact L.ret hf (run_results1 results58 (ResIs.tmp hf rfl)) ⟨1, rfl, h, hs.nil⟩
  ·replace h := h.2 hc
   refine wp_skip (X.then_ (X.l (S.q hf hs (iv 0) rfl fun a hf => X.n (wp_ret ?_))))
   exact L.ret hf (run_results1 results58 (ResIs.tmp hf rfl)) ⟨0, rfl, h, hs.nil⟩
 ·skip
  refine R.list (S.v hf hs ((pn g1 0)) rfl (V.fieldBox rfl rfl runUnderlying26 rfl sizeOf3 rfl rfl) fun a hf => S.v hf hs (iv c.Step) rfl (V.loadBox 0 rfl rfl rfl isAgg3 sizeOf3 rfl rfl) fun a hf => S.callv hf rfl rfl rfl (call_fn (vs := [iv c.Step, iv 1, iv 1000]) rfl rfl rfl call38) (C_route_within c.Step 1 1000 _ ) (fun a w hf hs' => ?_))
  replace hs := hs.call hs'; clear hs'
  refine S.q hf hs (.bool (!(within c.Step 1 1000))) rfl fun a hf => ?_
  refine S.split hf hs (b := !(within c.Step 1 1000)) rfl rfl rfl (V.pure rfl) (fun hc a hf => ?_) (fun hc a hf => ?_)
  ·replace h := h.1 hc
   refine S.k hf rfl fun a hf => S.k hf rfl fun a hf => S.k hf rfl fun a hf => S.k hf rfl fun a hf => S.q hf hs (.bool true) rfl fun a hf => S.q hf hs (.bool true) rfl fun a hf => S.k hf rfl fun a hf => S.k hf rfl fun a hf => S.k hf rfl fun a hf => S.k hf rfl fun a hf => S.q hf hs (.bool true) rfl fun a hf => S.q hf hs (.bool true) rfl fun a hf => ?_
   refine S.k hf rfl fun a hf => S.k hf rfl fun a hf => S.k hf rfl fun a hf => S.k hf rfl fun a hf => S.q hf hs (.bool true) rfl fun a hf => X.n ?_
   exact ⟨true, h, (hf.nil.cons (hf.get 24 _ rfl)), hs⟩
  ·replace h := h.2 hc
   refine S.v hf hs ((pn g1 1)) rfl (V.fieldBox rfl rfl runUnderlying26 rfl sizeOf3 rfl rfl) fun a hf => S.v hf hs (iv c.Via) rfl (V.loadBox 0 rfl rfl rfl isAgg3 sizeOf3 rfl rfl) fun a hf => S.callv hf rfl rfl rfl (call_fn (vs := [iv c.Via, iv 1, iv 1000]) rfl rfl rfl call38) (C_route_within c.Via 1 1000 _ ) (fun a w hf hs' => ?_)
   replace hs := hs.call hs'; clear hs'
   refine S.q hf hs (.bool (!(within c.Via 1 1000))) rfl fun a hf => S.q hf hs (.bool (!(within c.Via 1 1000))) rfl fun a hf => ?_
   refine S.split hf hs (b := !(within c.Via 1 1000)) rfl rfl rfl (V.pure rfl) (fun hc a hf => ?_) (fun hc a hf => ?_)
   ·replace h := h.1 hc
    refine S.k hf rfl fun a hf => S.k hf rfl fun a hf => S.k hf rfl fun a hf => S.k hf rfl fun a hf => S.q hf hs (.bool true) rfl fun a hf => S.q hf hs (.bool true) rfl fun a hf => S.k hf rfl fun a hf => S.k hf rfl fun a hf => S.k hf rfl fun a hf => S.k hf rfl fun a hf => S.q hf hs (.bool true) rfl fun a hf => X.n ?_
    exact ⟨true, h, (hf.nil.cons (hf.get 24 _ rfl)), hs⟩
   ·replace h := h.2 hc
    refine S.v hf hs ((pn g1 2)) rfl (V.fieldBox rfl rfl runUnderlying26 rfl sizeOf3 rfl rfl) fun a hf => S.v hf hs (iv c.Turn) rfl (V.loadBox 0 rfl rfl rfl isAgg3 sizeOf3 rfl rfl) fun a hf => S.callv hf rfl rfl rfl (call_fn (vs := [iv c.Turn, iv 0, iv 1000]) rfl rfl rfl call38) (C_route_within c.Turn 0 1000 _ ) (fun a w hf hs' => ?_)
    replace hs := hs.call hs'; clear hs'
    refine S.q hf hs (.bool (!(within c.Turn 0 1000))) rfl fun a hf => S.q hf hs (.bool (!(within c.Turn 0 1000))) rfl fun a hf => ?_
    refine S.split hf hs (b := !(within c.Turn 0 1000)) rfl rfl rfl (V.pure rfl) (fun hc a hf => ?_) (fun hc a hf => ?_)
    ·replace h := h.1 hc
     refine S.k hf rfl fun a hf => S.k hf rfl fun a hf => S.k hf rfl fun a hf => S.k hf rfl fun a hf => S.q hf hs (.bool true) rfl fun a hf => X.n ?_
     exact ⟨true, h, (hf.nil.cons (hf.get 24 _ rfl)), hs⟩
    ·replace h := h.2 hc
     refine S.v hf hs ((pn g1 3)) rfl (V.fieldBox rfl rfl runUnderlying26 rfl sizeOf3 rfl rfl) fun a hf => S.v hf hs (iv c.Against) rfl (V.loadBox 0 rfl rfl rfl isAgg3 sizeOf3 rfl rfl) fun a hf => S.callv hf rfl rfl rfl (call_fn (vs := [iv c.Against, iv 0, iv 1000]) rfl rfl rfl call38) (C_route_within c.Against 0 1000 _ ) (fun a w hf hs' => ?_)
     replace hs := hs.call hs'; clear hs'
     refine S.q hf hs (.bool (!(within c.Against 0 1000))) rfl fun a hf => S.q hf hs (.bool (!(within c.Against 0 1000))) rfl fun a hf => X.n ?_
     exact ⟨(!(within c.Against 0 1000)), h, (hf.nil.cons (hf.get 24 _ rfl)), hs⟩
def M_route_blocked_L1 (g : Grid) (k1 : Nat) (xk1 : Cell) (l2 : List Bool) (next1 : List Bool → Prop) : Prop :=
  M_route_number g xk1 fun y1 => idx l2 y1 fun x1 => next1 (l2.set y1.toNat true)
def M_route_blocked (g : Grid) (Q : (List Bool) → Prop) : Prop :=
  must (0 ≤ w64 ((w64 (g.W * g.H)) * g.Layers) ∧ w64 ((w64 (g.W * g.H)) * g.Layers) * 1 ≤ 281474976710656) (forIn' (fun k x (s : List Bool) next => M_route_blocked_L1 g k x s (fun l2 => next l2)) (fun (s : List Bool) => (fun (l2 : List Bool) => Q l2) s) g.Blocked 0 (List.replicate ((w64 ((w64 (g.W * g.H)) * g.Layers)).toNat) false))
theorem R_route_blocked (g : Grid) (w0 : World) (g_BlockedA : Option Addr) (g_BlockedC : Nat) (hv_g_Blocked : View w0 (old w0 none_) g_BlockedA g_BlockedC g.Blocked) (Q : (List Bool) → Prop) (h : M_route_blocked g Q) :
  Ret Tryz.prog 23 #[.agg #[iv g.W, iv g.H, iv g.Layers, .slice g_BlockedA g.Blocked.length g_BlockedC]] w0 fun v w' => ∃ (r0 : (List Bool)) (r0A : Option Addr) (r0C : Nat), v = .slice r0A r0.length r0C ∧ Q r0 ∧ Sat w0 none_ [hown 4 r0A r0C r0] w' := by
 refine fn_enter func23 rfl ntmps23 rfl (fs := [(0, .agg #[iv g.W, iv g.H, iv g.Layers, .slice g_BlockedA g.Blocked.length g_BlockedC])]) rfl (fun a hf => ?_)
 have hs := Sat.start w0 none_
 unfold M_route_blocked at h
 refine X.l (S.box hf hs rfl rfl rfl [iv g.W, iv g.H, iv g.Layers, .slice g_BlockedA g.Blocked.length g_BlockedC] rfl rfl rfl (fun g1 a w hf hs => S.q hf hs (.slice none 0 0) rfl fun a hf => X.n (X.l (S.v hf hs ((pn g1 0)) rfl (V.fieldBox rfl rfl runUnderlying24 rfl sizeOf3 rfl rfl) fun a hf => S.v hf hs (iv g.W) rfl (V.loadBox 0 rfl rfl rfl isAgg3 sizeOf3 rfl rfl) fun a hf => S.v hf hs ((pn g1 1)) rfl (V.fieldBox rfl rfl runUnderlying24 rfl sizeOf3 rfl rfl) fun a hf => S.v hf hs (iv g.H) rfl (V.loadBox 0 rfl rfl rfl isAgg3 sizeOf3 rfl rfl) fun a hf => S.q hf hs (iv (w64 (g.W * g.H))) rfl fun a hf => S.v hf hs ((pn g1 2)) rfl (V.fieldBox rfl rfl runUnderlying24 rfl sizeOf3 rfl rfl) fun a hf => S.v hf hs (iv g.Layers) rfl (V.loadBox 0 rfl rfl rfl isAgg3 sizeOf3 rfl rfl) fun a hf => S.q hf hs (iv (w64 ((w64 (g.W * g.H)) * g.Layers))) rfl fun a hf => ?_))))
 obtain ⟨hmk, h⟩ := h
 refine S.make hf hs rfl rfl rfl (α := Bool) false (z := (w64 ((w64 (g.W * g.H)) * g.Layers))) (N := (w64 ((w64 (g.W * g.H)) * g.Layers)).toNat) rfl rfl rfl underlying49 info4 hmk rfl (by have := hmk.2; omega) (fun A1 a w hf hs => S.q hf hs (.slice A1 (List.replicate ((w64 ((w64 (g.W * g.H)) * g.Layers)).toNat) false).length ((w64 ((w64 (g.W * g.H)) * g.Layers)).toNat)) rfl fun a hf => X.n (wp_seq (X.l (S.v hf hs ((pn g1 3)) rfl (V.fieldBox rfl rfl runUnderlying24 rfl sizeOf22 rfl rfl) fun a hf => S.v hf hs (.slice g_BlockedA g.Blocked.length g_BlockedC) rfl (V.loadBox 1 rfl rfl rfl isAgg22 sizeOf22 rfl rfl) fun a hf => S.v hf hs (iv (g.Blocked.length : Int)) rfl (V.len rfl rfl runUnderlying22) fun a hf => S.q hf hs (iv 0) rfl fun a hf => X.n (wp_block ?_)))))
 have hlenk1 := hv_g_Blocked.len64
 refine C.range (fun (ll : List Cell) a w => ∃ (k1 : Nat) (l2 : List Bool) (l2A : Option Addr) (l2C : Nat), g.Blocked.drop k1 = ll ∧ k1 + ll.length = g.Blocked.length ∧ forIn' (fun k x (s : List Bool) next => M_route_blocked_L1 g k x s (fun l2 => next l2)) (fun (s : List Bool) => (fun (l2 : List Bool) => Q l2) s) ll k1 l2 ∧ FrOk 29 [(18, iv (k1 : Int)), (1, (pn g1 0)), (3, .slice l2A l2.length l2C), (16, .slice g_BlockedA g.Blocked.length g_BlockedC), (17, iv (g.Blocked.length : Int))] a ∧ Sat w0 none_ [hown 4 l2A l2C l2, hbox g1 24 [iv g.W, iv g.H, iv g.Layers, .slice g_BlockedA g.Blocked.length g_BlockedC]] w) g.Blocked ⟨0, (List.replicate ((w64 ((w64 (g.W * g.H)) * g.Layers)).toNat) false), A1, ((w64 ((w64 (g.W * g.H)) * g.Layers)).toNat), rfl, Nat.zero_add _, h, (((((hf.nil.cons (hf.get 17 _ rfl)).cons (hf.get 16 _ rfl)).cons (hf.get 3 _ rfl)).cons (hf.get 1 _ rfl)).cons (hf.get 18 _ rfl)), hs⟩ ?_
 clear h hf hs
 rintro llk1 a w ⟨k1, l2, l2A, l2C, hlk1, hkk1, h, hf, hs⟩
 cases llk1 with
 | nil =>
  have hc := range_done hkk1
  replace h : (fun (l2 : List Bool) => Q l2) l2 := h
  refine X.l (S.v hf hs (.bool false) rfl (V.cmp false rfl rfl rfl rfl hc) fun a hf => X.n (wp_seq (C.no hf rfl (wp_exit (X.then_exit (X.then_exit (X.blk_exit (X.then_ (X.l (S.q hf hs (.slice l2A l2.length l2C) rfl fun a hf => S.q hf hs (.slice l2A l2.length l2C) rfl fun a hf => X.n (wp_ret ?_)))))))))))
  replace hs := hs.take 1
  exact L.ret hf (run_results1 results23 (ResIs.tmp hf rfl)) ⟨l2, l2A, l2C, rfl, h, hs⟩
 | cons xk1 llk1 =>
  have hltk1 := range_lt hkk1; have hc := range_go hkk1; have hxk1 := range_get hlk1
  obtain ⟨next1, hnext1⟩ : ∃ X : List Bool → Prop, X = (fun l2 => forIn' (fun k x (s : List Bool) next => M_route_blocked_L1 g k x s (fun l2 => next l2)) (fun (s : List Bool) => (fun (l2 : List Bool) => Q l2) s) llk1 (k1 + 1) l2) := ⟨_, rfl⟩
  replace h : M_route_blocked_L1 g k1 xk1 l2 next1 := by rw [hnext1]; exact h
  unfold M_route_blocked_L1 at h
  refine X.l (S.v hf hs (.bool true) rfl (V.cmp true rfl rfl rfl rfl hc) fun a hf => X.n (wp_seq (C.yes hf rfl (wp_skip (X.then_ (wp_seq (wp_block (X.l (S.v hf hs (elemPtr g_BlockedA (k1 * 3)) rfl (V.index rfl rfl rfl runUnderlying22 sizeOf55 (hv_g_Blocked.some_ (lt_of_get hxk1)) (Int.natCast_nonneg _) (lt_of_get hxk1) rfl) fun a hf => S.v hf hs (.agg #[iv xk1.X, iv xk1.Y, iv xk1.Layer]) rfl (V.loadEl (off := 0) (Ag.args _ _ _) (hv_g_Blocked.flat hxk1) rfl rfl rfl isAgg55 sizeOf55 rfl rfl) fun a hf => S.alloc hf hs rfl rfl rfl [iv 0, iv 0, iv 0] rfl zeroValue55 rfl (fun g2 a w hf hs => S.storeBox 0 hf hs rfl rfl [iv xk1.X, iv xk1.Y, iv xk1.Layer] [iv xk1.X, iv xk1.Y, iv xk1.Layer] rfl rfl rfl rfl rfl sizeOf55 rfl rfl rfl rfl (fun a w hf hs => X.n (R.list (S.q hf hs (.slice l2A l2.length l2C) rfl fun a hf => S.v hf hs (.agg #[iv g.W, iv g.H, iv g.Layers, .slice g_BlockedA g.Blocked.length g_BlockedC]) rfl (V.loadBox 2 rfl rfl rfl isAgg24 sizeOf24 rfl rfl) fun a hf => ?_)))))))))))))
  refine S.v hf hs (.agg #[iv xk1.X, iv xk1.Y, iv xk1.Layer]) rfl (V.loadBox 0 rfl rfl rfl isAgg55 sizeOf55 rfl rfl) fun a hf => S.call hf rfl rfl rfl (call_fn (vs := [.agg #[iv g.W, iv g.H, iv g.Layers, .slice g_BlockedA g.Blocked.length g_BlockedC], .agg #[iv xk1.X, iv xk1.Y, iv xk1.Layer]]) rfl rfl rfl call32) (R_route_number g xk1 _ g_BlockedA g_BlockedC ((Ag.args _ _ _).view hv_g_Blocked hs) _ h) (fun v a w' hf hr => ?_)
  obtain ⟨y1, rfl, h2, hs2⟩ := hr
  replace h := h2; replace hs := hs.call hs2; clear h2 hs2
  obtain ⟨h0x1, x1, hx1, h⟩ := h
  refine S.v hf hs (elemPtr l2A (y1.toNat * 1)) rfl (V.index rfl rfl rfl runUnderlying49 sizeOf4 (hs.ownSome 1 rfl (lt_of_get hx1)) h0x1 (lt_of_get hx1) rfl) fun a hf => S.storeOwn (off := 0) 1 hf hs rfl rfl true [.bool true] rfl hx1 rfl rfl rfl rfl rfl sizeOf4 rfl (by decide) rfl rfl (fun a w hf hs => ?_)
  replace hf := hf.tell 3 (v := .slice l2A (l2.set y1.toNat true).length l2C) ((hf.get 3 (.slice l2A l2.length l2C) rfl).trans (congrArg (fun n => Value.slice l2A n l2C) List.length_set.symm))
  replace hf := hf.tell 22 (v := .slice l2A (l2.set y1.toNat true).length l2C) ((hf.get 22 (.slice l2A l2.length l2C) rfl).trans (congrArg (fun n => Value.slice l2A n l2C) List.length_set.symm))
  refine R.nil (X.blk (X.then_ (R.list (S.v hf hs (iv ((k1 + 1 : Nat) : Int)) rfl (V.incr rfl rfl rfl hltk1 hlenk1) fun a hf => S.q hf hs (iv ((k1 + 1 : Nat) : Int)) rfl fun a hf => X.n ?_))))
  exact ⟨xk1, llk1, rfl, k1 + 1, (l2.set y1.toNat true), l2A, l2C, range_drop hlk1, range_len hkk1, (by rw [hnext1] at h; exact h), (((((hf.nil.cons (hf.get 17 _ rfl)).cons (hf.get 16 _ rfl)).cons (hf.get 3 _ rfl)).cons (hf.get 1 _ rfl)).cons (hf.get 18 _ rfl)), hs.drop⟩
def stepC (c : Costs) (layer last along : Int) : Int × Int :=
  if along = 3 then (c.Via, last)
  else
    let n := if (decide (layer.tmod 2 = 0) == decide (along = 2)) = true then w64 (c.Step + c.Against) else c.Step
    (if last ≠ 0 ∧ last ≠ along then w64 (n + c.Turn) else n, along)
def M_route_stepCost_k2 (along : Int) (Q : Int → Int → Prop) (n2 : Int) : Prop :=
  Q n2 along
def M_route_stepCost_k3 (c : Costs) (along : Int) (Q : Int → Int → Prop) (n1 : Int) (c1 : Bool) : Prop :=
  cnd c1 (M_route_stepCost_k2 along Q (w64 (n1 + c.Turn))) (M_route_stepCost_k2 along Q n1)
def M_route_stepCost_k1 (c : Costs) (last : Int) (along : Int) (Q : Int → Int → Prop) (n1 : Int) : Prop :=
  cnd (last != 0) (M_route_stepCost_k3 c along Q n1 (last != along)) (M_route_stepCost_k3 c along Q n1 false)
def M_route_stepCost (c : Costs) (layer : Int) (last : Int) (along : Int) (Q : Int → Int → Prop) : Prop :=
  cnd (along == 3) (Q c.Via last) (cnd (((layer.tmod 2) == 0) == (along == 2)) (M_route_stepCost_k1 c last along Q (w64 (c.Step + c.Against))) (M_route_stepCost_k1 c last along Q c.Step))
theorem R_route_stepCost (c : Costs) (layer : Int) (last : Int) (along : Int) (w0 : World)  (Q : Int → Int → Prop) (h : M_route_stepCost c layer last along Q) :
  Ret Tryz.prog 59 #[.agg #[iv c.Step, iv c.Via, iv c.Turn, iv c.Against], iv layer, iv last, iv along] w0 fun v w' => ∃ (r0 : Int) (r1 : Int), v = .tuple #[iv r0, iv r1] ∧ Q r0 r1 ∧ Sat w0 none_ [] w' := by
 refine fn_enter func59 rfl ntmps59 rfl (fs := [(0, .agg #[iv c.Step, iv c.Via, iv c.Turn, iv c.Against]), (1, iv layer), (2, iv last), (3, iv along)]) rfl (fun a hf => ?_)
 have hs := Sat.start w0 none_
 unfold M_route_stepCost at h
 refine X.l (S.box hf hs rfl rfl rfl [iv c.Step, iv c.Via, iv c.Turn, iv c.Against] rfl rfl rfl (fun g1 a w hf hs => S.q hf hs (iv 0) rfl fun a hf => S.q hf hs (iv 0) rfl fun a hf => X.n (wp_seq (X.l (S.q hf hs (iv along) rfl fun a hf => S.q hf hs (.bool (along == 3)) rfl fun a hf => X.n ?_)))))
 refine C.cond hf (b := along == 3) rfl (fun hc => ?_) (fun hc => ?_)
 ·replace h := h.1 hc
  refine X.l (S.v hf hs ((pn g1 1)) rfl (V.fieldBox rfl rfl runUnderlying26 rfl sizeOf3 rfl rfl) fun a hf => S.v hf hs (iv c.Via) rfl (V.loadBox 0 rfl rfl rfl isAgg3 sizeOf3 rfl rfl) fun a hf => S.q hf hs (iv last) rfl fun a hf => S.q hf hs (iv c.Via) rfl fun a hf => S.q hf hs (iv last) rfl fun a hf => X.n (wp_ret (X.then_ret ?_)))
  exact L.ret hf (run_results2 results59 (ResIs.tmp hf rfl) (ResIs.tmp hf rfl)) ⟨c.Via, last, rfl, h, hs.nil⟩
 ·replace h := h.2 hc
  refine wp_skip (X.then_ (X.l (S.v hf hs ((pn g1 0)) rfl (V.fieldBox rfl rfl runUnderlying26 rfl sizeOf3 rfl rfl) fun a hf => S.v hf hs (iv c.Step) rfl (V.loadBox 0 rfl rfl rfl isAgg3 sizeOf3 rfl rfl) fun a hf => S.q hf hs (iv c.Step) rfl fun a hf => X.n (wp_seq ?_))))
  refine C.cut (J := fun a w => ∃ (n1 : Int), M_route_stepCost_k1 c last along Q n1 ∧ FrOk 41 [(2, iv last), (3, iv along), (4, (pn g1 0)), (10, iv n1)] a ∧ Sat w0 none_ [hbox g1 26 [iv c.Step, iv c.Via, iv c.Turn, iv c.Against]] w) ?_ ?_
  ·rintro a w ⟨n1, h, hf, hs⟩
   unfold M_route_stepCost_k1 at h
   refine wp_seq ?_
   refine C.cut (J := fun a w => ∃ (n2 : Int), M_route_stepCost_k2 along Q n2 ∧ FrOk 41 [(3, iv along), (10, iv n2)] a ∧ Sat w0 none_ [hbox g1 26 [iv c.Step, iv c.Via, iv c.Turn, iv c.Against]] w) ?_ ?_
   ·rintro a w ⟨n2, h, hf, hs⟩
    unfold M_route_stepCost_k2 at h
    refine X.l (S.q hf hs (iv n2) rfl fun a hf => S.q hf hs (iv along) rfl fun a hf => S.q hf hs (iv n2) rfl fun a hf => S.q hf hs (iv along) rfl fun a hf => X.n (wp_ret ?_))
    exact L.ret hf (run_results2 results59 (ResIs.tmp hf rfl) (ResIs.tmp hf rfl)) ⟨n2, along, rfl, h, hs.nil⟩
   ·skip
    refine wp_seq ?_
    refine C.cut (J := fun a w => ∃ (c1 : Bool), M_route_stepCost_k3 c along Q n1 c1 ∧ FrOk 41 [(3, iv along), (4, (pn g1 0)), (10, iv n1), (34, .bool c1)] a ∧ Sat w0 none_ [hbox g1 26 [iv c.Step, iv c.Via, iv c.Turn, iv c.Against]] w) ?_ ?_
    ·rintro a w ⟨c1, h, hf, hs⟩
     unfold M_route_stepCost_k3 at h
     refine C.cond hf (b := c1) rfl (fun hc => ?_) (fun hc => ?_)
     ·replace h := h.1 hc
      refine R.list (S.q hf hs (iv n1) rfl fun a hf => S.v hf hs ((pn g1 2)) rfl (V.fieldBox rfl rfl runUnderlying26 rfl sizeOf3 rfl rfl) fun a hf => S.v hf hs (iv c.Turn) rfl (V.loadBox 0 rfl rfl rfl isAgg3 sizeOf3 rfl rfl) fun a hf => S.q hf hs (iv (w64 (n1 + c.Turn))) rfl fun a hf => S.q hf hs (iv (w64 (n1 + c.Turn))) rfl fun a hf => X.n ?_)
      exact ⟨(w64 (n1 + c.Turn)), h, ((hf.nil.cons (hf.get 10 _ rfl)).cons (hf.get 3 _ rfl)), hs⟩
     ·replace h := h.2 hc
      refine wp_skip (X.then_ ?_)
      exact ⟨n1, h, ((hf.nil.cons (hf.get 10 _ rfl)).cons (hf.get 3 _ rfl)), hs⟩
    ·skip
     refine R.list (S.q hf hs (iv last) rfl fun a hf => S.q hf hs (.bool (last != 0)) rfl fun a hf => ?_)
     refine S.split hf hs (b := last != 0) rfl rfl rfl (V.pure rfl) (fun hc a hf => ?_) (fun hc a hf => ?_)
     ·replace h := h.1 hc
      refine S.q hf hs (iv last) rfl fun a hf => S.q hf hs (iv along) rfl fun a hf => S.q hf hs (.bool (last != along)) rfl fun a hf => S.q hf hs (.bool (last != along)) rfl fun a hf => X.n ?_
      exact ⟨(last != along), h, ((((hf.nil.cons (hf.get 34 _ rfl)).cons (hf.get 10 _ rfl)).cons (hf.get 4 _ rfl)).cons (hf.get 3 _ rfl)), hs⟩
     ·replace h := h.2 hc
      refine S.k hf rfl fun a hf => S.k hf rfl fun a hf => S.k hf rfl fun a hf => S.q hf hs (.bool false) rfl fun a hf => X.n ?_
      exact ⟨false, h, ((((hf.nil.cons (hf.get 34 _ rfl)).cons (hf.get 10 _ rfl)).cons (hf.get 4 _ rfl)).cons (hf.get 3 _ rfl)), hs⟩
  ·skip
   refine X.l (S.q hf hs (iv layer) rfl fun a hf => S.v hf hs (iv (layer.tmod 2)) rfl (V.rem rfl rfl rfl (by decide)) fun a hf => S.q hf hs (.bool ((layer.tmod 2) == 0)) rfl fun a hf => S.q hf hs (iv along) rfl fun a hf => S.q hf hs (.bool (along == 2)) rfl fun a hf => S.v hf hs (.bool (((layer.tmod 2) == 0) == (along == 2))) rfl (V.boolEq rfl rfl rfl underlying4 rfl) fun a hf => X.n ?_)
   refine C.cond hf (b := ((layer.tmod 2) == 0) == (along == 2)) rfl (fun hc => ?_) (fun hc => ?_)
   ·replace h := h.1 hc
    refine R.list (S.q hf hs (iv c.Step) rfl fun a hf => S.v hf hs ((pn g1 3)) rfl (V.fieldBox rfl rfl runUnderlying26 rfl sizeOf3 rfl rfl) fun a hf => S.v hf hs (iv c.Against) rfl (V.loadBox 0 rfl rfl rfl isAgg3 sizeOf3 rfl rfl) fun a hf => S.q hf hs (iv (w64 (c.Step + c.Against))) rfl fun a hf => S.q hf hs (iv (w64 (c.Step + c.Against))) rfl fun a hf => X.n ?_)
    exact ⟨(w64 (c.Step + c.Against)), h, ((((hf.nil.cons (hf.get 10 _ rfl)).cons (hf.get 4 _ rfl)).cons (hf.get 3 _ rfl)).cons (hf.get 2 _ rfl)), hs⟩
   ·replace h := h.2 hc
    refine wp_skip (X.then_ ?_)
    exact ⟨c.Step, h, ((((hf.nil.cons (hf.get 10 _ rfl)).cons (hf.get 4 _ rfl)).cons (hf.get 3 _ rfl)).cons (hf.get 2 _ rfl)), hs⟩
def M_route_checkBoth (g : Grid) (c : Costs) (Q : Int → Prop) : Prop :=
  M_route_CheckGrid g fun y1 => cnd (y1 != 0) (Q y1) (M_route_CheckCosts c fun y2 => Q y2)
theorem R_route_checkBoth (g : Grid) (c : Costs) (w0 : World) (g_BlockedA : Option Addr) (g_BlockedC : Nat) (hv_g_Blocked : View w0 (old w0 none_) g_BlockedA g_BlockedC g.Blocked) (Q : Int → Prop) (h : M_route_checkBoth g c Q) :
  Ret Tryz.prog 19 #[.agg #[iv g.W, iv g.H, iv g.Layers, .slice g_BlockedA g.Blocked.length g_BlockedC], .agg #[iv c.Step, iv c.Via, iv c.Turn, iv c.Against]] w0 fun v w' => ∃ (r0 : Int), v = iv r0 ∧ Q r0 ∧ Sat w0 none_ [] w' := by
 refine fn_enter func19 rfl ntmps19 rfl (fs := [(0, .agg #[iv g.W, iv g.H, iv g.Layers, .slice g_BlockedA g.Blocked.length g_BlockedC]), (1, .agg #[iv c.Step, iv c.Via, iv c.Turn, iv c.Against])]) rfl (fun a hf => ?_)
 have hs := Sat.start w0 none_
 unfold M_route_checkBoth at h
 refine X.l (S.box hf hs rfl rfl rfl [iv g.W, iv g.H, iv g.Layers, .slice g_BlockedA g.Blocked.length g_BlockedC] rfl rfl rfl (fun g1 a w hf hs => S.box hf hs rfl rfl rfl [iv c.Step, iv c.Via, iv c.Turn, iv c.Against] rfl rfl rfl (fun g2 a w hf hs => S.q hf hs (iv 0) rfl fun a hf => X.n (wp_seq (X.l (S.v hf hs (.agg #[iv g.W, iv g.H, iv g.Layers, .slice g_BlockedA g.Blocked.length g_BlockedC]) rfl (V.loadBox 1 rfl rfl rfl isAgg24 sizeOf24 rfl rfl) fun a hf => S.call hf rfl rfl rfl (call_fn (vs := [.agg #[iv g.W, iv g.H, iv g.Layers, .slice g_BlockedA g.Blocked.length g_BlockedC]]) rfl rfl rfl call48) (R_route_CheckGrid g _ g_BlockedA g_BlockedC ((Ag.args _ _ _).view hv_g_Blocked hs) _ h) (fun v a w' hf hr => ?_)))))))
 obtain ⟨y1, rfl, h2, hs2⟩ := hr
 replace h := h2; replace hs := hs.call hs2; clear h2 hs2
 refine S.q hf hs (iv y1) rfl fun a hf => X.n (X.l (S.q hf hs (iv y1) rfl fun a hf => S.q hf hs (.bool (y1 != 0)) rfl fun a hf => X.n ?_))
 refine C.cond hf (b := y1 != 0) rfl (fun hc => ?_) (fun hc => ?_)
 ·replace h := h.1 hc
  refine X.l (S.q hf hs (iv y1) rfl fun a hf => S.q hf hs (iv y1) rfl fun a hf => X.n (wp_ret (X.then_ret ?_)))
  exact L.ret hf (run_results1 results19 (ResIs.tmp hf rfl)) ⟨y1, rfl, h, hs.nil⟩
 ·replace h := h.2 hc
  refine wp_skip (X.then_ (X.l (S.v hf hs (.agg #[iv c.Step, iv c.Via, iv c.Turn, iv c.Against]) rfl (V.loadBox 0 rfl rfl rfl isAgg26 sizeOf26 rfl rfl) fun a hf => S.call hf rfl rfl rfl (call_fn (vs := [.agg #[iv c.Step, iv c.Via, iv c.Turn, iv c.Against]]) rfl rfl rfl call58) (R_route_CheckCosts c _  _ h) (fun v a w' hf hr => ?_))))
  obtain ⟨y2, rfl, h2, hs2⟩ := hr
  replace h := h2; replace hs := hs.call hs2; clear h2 hs2
  refine S.q hf hs (iv y2) rfl fun a hf => X.n (wp_ret ?_)
  exact L.ret hf (run_results1 results19 (ResIs.tmp hf rfl)) ⟨y2, rfl, h, hs.nil⟩
def M_index_cell_L1 (v_ : Cell) (Q : Int → Prop) (k1 : Nat) (xk1 : Cell)  (next1 : Prop) : Prop :=
  cnd (decide (v_ = xk1)) (Q (k1 : Int)) (next1)
def M_index_cell (s_ : (List Cell)) (v_ : Cell) (Q : Int → Prop) : Prop :=
  forIn' (fun k x (s : Unit) next => M_index_cell_L1 v_ Q k x (next ())) (fun (s : Unit) => Q (-1)) s_ 0 ()
theorem R_index_cell (s_ : (List Cell)) (v_ : Cell) (w0 : World) (s_A : Option Addr) (s_C : Nat) (hv_s_ : View w0 (old w0 none_) s_A s_C s_) (Q : Int → Prop) (h : M_index_cell s_ v_ Q) :
  Ret Tryz.prog 91 #[.slice s_A s_.length s_C, .agg #[iv v_.X, iv v_.Y, iv v_.Layer]] w0 fun v w' => ∃ (r0 : Int), v = iv r0 ∧ Q r0 ∧ Sat w0 none_ [] w' := by
 refine fn_enter func91 rfl ntmps91 rfl (fs := [(0, .slice s_A s_.length s_C), (1, .agg #[iv v_.X, iv v_.Y, iv v_.Layer])]) rfl (fun a hf => ?_)
 have hs := Sat.start w0 none_
 unfold M_index_cell at h
 refine X.l (S.box hf hs rfl rfl rfl [iv v_.X, iv v_.Y, iv v_.Layer] rfl rfl rfl (fun g1 a w hf hs => S.q hf hs (iv 0) rfl fun a hf => X.n (wp_seq (X.l (S.q hf hs (.slice s_A s_.length s_C) rfl fun a hf => S.v hf hs (iv (s_.length : Int)) rfl (V.len rfl rfl runUnderlying22) fun a hf => S.q hf hs (iv 0) rfl fun a hf => X.n (wp_block ?_))))))
 have hlenk1 := hv_s_.len64
 refine C.range (fun (ll : List Cell) a w => ∃ (k1 : Nat) , s_.drop k1 = ll ∧ k1 + ll.length = s_.length ∧ forIn' (fun k x (s : Unit) next => M_index_cell_L1 v_ Q k x (next ())) (fun (s : Unit) => Q (-1)) ll k1 () ∧ FrOk 19 [(8, iv (k1 : Int)), (0, .slice s_A s_.length s_C), (3, (pn g1 0)), (7, iv (s_.length : Int))] a ∧ Sat w0 none_ [hbox g1 55 [iv v_.X, iv v_.Y, iv v_.Layer]] w) s_ ⟨0, rfl, Nat.zero_add _, h, ((((hf.nil.cons (hf.get 7 _ rfl)).cons (hf.get 3 _ rfl)).cons (hf.get 0 _ rfl)).cons (hf.get 8 _ rfl)), hs⟩ ?_
 clear h hf hs
 rintro llk1 a w ⟨k1, hlk1, hkk1, h, hf, hs⟩
 cases llk1 with
 | nil =>
  have hc := range_done hkk1
  replace h : Q (-1) := h
  refine X.l (S.v hf hs (.bool false) rfl (V.cmp false rfl rfl rfl rfl hc) fun a hf => X.n (wp_seq (C.no hf rfl (wp_exit (X.then_exit (X.then_exit (X.blk_exit (X.then_ (X.l (S.q hf hs (iv (-1)) rfl fun a hf => X.n (wp_ret ?_)))))))))))
  exact L.ret hf (run_results1 results91 (ResIs.tmp hf rfl)) ⟨(-1), rfl, h, hs.nil⟩
 | cons xk1 llk1 =>
  have hltk1 := range_lt hkk1; have hc := range_go hkk1; have hxk1 := range_get hlk1
  obtain ⟨next1, hnext1⟩ : ∃ X : Prop, X = (forIn' (fun k x (s : Unit) next => M_index_cell_L1 v_ Q k x (next ())) (fun (s : Unit) => Q (-1)) llk1 (k1 + 1) ()) := ⟨_, rfl⟩
  replace h : M_index_cell_L1 v_ Q k1 xk1  next1 := by rw [hnext1]; exact h
  unfold M_index_cell_L1 at h
  refine X.l (S.v hf hs (.bool true) rfl (V.cmp true rfl rfl rfl rfl hc) fun a hf => X.n (wp_seq (C.yes hf rfl (wp_skip (X.then_ (wp_seq (wp_block (X.l (S.q hf hs (iv (k1 : Int)) rfl fun a hf => S.q hf hs (iv (k1 : Int)) rfl fun a hf => X.n (wp_seq (R.draw mo (by kernel_rfl) hs (D.v hf (.agg #[iv v_.X, iv v_.Y, iv v_.Layer]) rfl (V.loadBox 0 rfl rfl rfl isAgg55 sizeOf55 rfl rfl) fun a hf => D.p hf (.slice s_A s_.length s_C) rfl rfl fun a hf => D.p hf (iv (k1 : Int)) rfl rfl fun a hf => ?_))))))))))))
  refine D.v hf (elemPtr s_A (k1 * 3)) rfl (V.index rfl rfl rfl runUnderlying22 sizeOf55 (hv_s_.some_ (lt_of_get hxk1)) (Int.natCast_nonneg _) (lt_of_get hxk1) rfl) fun a hf => D.v hf (.agg #[iv xk1.X, iv xk1.Y, iv xk1.Layer]) rfl (V.loadEl (off := 0) (Ag.args _ _ _) (hv_s_.flat hxk1) rfl rfl rfl isAgg55 sizeOf55 rfl rfl) fun a hf => D.v hf (.bool (decide (v_ = xk1))) rfl (V.aggeql rfl rfl rfl (by kernel_rfl) (fun w => eqS55 v_ xk1 w)) fun a hf => D.done (fun w hs => X.then_ ?_)
  refine C.cond hf (b := decide (v_ = xk1)) rfl (fun hc => ?_) (fun hc => ?_)
  ·replace h := h.1 hc
   refine X.l (S.q hf hs (iv (k1 : Int)) rfl fun a hf => S.q hf hs (iv (k1 : Int)) rfl fun a hf => X.n (wp_ret (X.blk_ret (X.then_ret (X.then_ret (X.blk_ret (X.then_ret ?_)))))))
   exact L.ret hf (run_results1 results91 (ResIs.tmp hf rfl)) ⟨(k1 : Int), rfl, h, hs.nil⟩
  ·replace h := h.2 hc
   refine wp_skip (X.blk (X.then_ (R.list (S.v hf hs (iv ((k1 + 1 : Nat) : Int)) rfl (V.incr rfl rfl rfl hltk1 hlenk1) fun a hf => S.q hf hs (iv ((k1 + 1 : Nat) : Int)) rfl fun a hf => X.n ?_))))
   exact ⟨xk1, llk1, rfl, k1 + 1, range_drop hlk1, range_len hkk1, (by rw [hnext1] at h; exact h), ((((hf.nil.cons (hf.get 7 _ rfl)).cons (hf.get 3 _ rfl)).cons (hf.get 0 _ rfl)).cons (hf.get 8 _ rfl)), hs⟩
def M_contains_cell (s_ : (List Cell)) (v_ : Cell) (Q : Bool → Prop) : Prop :=
  M_index_cell s_ v_ fun y1 => Q (decide (y1 ≥ 0))
theorem R_contains_cell (s_ : (List Cell)) (v_ : Cell) (w0 : World) (s_A : Option Addr) (s_C : Nat) (hv_s_ : View w0 (old w0 none_) s_A s_C s_) (Q : Bool → Prop) (h : M_contains_cell s_ v_ Q) :
  Ret Tryz.prog 56 #[.slice s_A s_.length s_C, .agg #[iv v_.X, iv v_.Y, iv v_.Layer]] w0 fun v w' => ∃ (r0 : Bool), v = .bool r0 ∧ Q r0 ∧ Sat w0 none_ [] w' := by
 refine fn_enter func56 rfl ntmps56 rfl (fs := [(0, .slice s_A s_.length s_C), (1, .agg #[iv v_.X, iv v_.Y, iv v_.Layer])]) rfl (fun a hf => ?_)
 have hs := Sat.start w0 none_
 unfold M_contains_cell at h
 refine X.l (S.box hf hs rfl rfl rfl [iv v_.X, iv v_.Y, iv v_.Layer] rfl rfl rfl (fun g1 a w hf hs => S.q hf hs (.bool false) rfl fun a hf => X.n (X.l (S.q hf hs (.slice s_A s_.length s_C) rfl fun a hf => S.v hf hs (.agg #[iv v_.X, iv v_.Y, iv v_.Layer]) rfl (V.loadBox 0 rfl rfl rfl isAgg55 sizeOf55 rfl rfl) fun a hf => S.call hf rfl rfl rfl (call_fn (vs := [.slice s_A s_.length s_C, .agg #[iv v_.X, iv v_.Y, iv v_.Layer]]) rfl rfl rfl call91) (R_index_cell s_ v_ _ s_A s_C ((Ag.args _ _ _).view hv_s_ hs) _ h) (fun v a w' hf hr => ?_)))))
 obtain ⟨y1, rfl, h2, hs2⟩ := hr
 replace h := h2; replace hs := hs.call hs2; clear h2 hs2
 refine S.q hf hs (.bool (decide (y1 ≥ 0))) rfl fun a hf => S.q hf hs (.bool (decide (y1 ≥ 0))) rfl fun a hf => X.n (wp_ret ?_)
 exact L.ret hf (run_results1 results56 (ResIs.tmp hf rfl)) ⟨(decide (y1 ≥ 0)), rfl, h, hs.nil⟩
end Go.Proofs.YtihjaehkdgdenaaGreatDoor

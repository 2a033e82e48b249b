/- Chapter texts of ours, as far as the claim needs them. -/
import Derived.Test.YtihjaehkdgdenaaRtG
namespace Go.Proofs.Ytihjaehkdgdenaa
open Go Go.RowKit
set_option linter.unusedVariables false
set_option linter.unusedVariables false
def M_field_at (f : R7Field) (c : Cell) (Q : Int → Prop) : Prop :=
  Q (w64 ((w64 ((w64 ((w64 (c.Layer * f.g.H)) + c.Y)) * f.g.W)) + c.X))
set_option maxHeartbeats 1000000 in
theorem R_field_at (f : R7Field) (c : Cell) (w0 : World) (f_g_BlockedA : Option Addr) (f_g_BlockedC : Nat) (hv_f_g_Blocked : View w0 (old w0 none_) f_g_BlockedA f_g_BlockedC f.g.Blocked) (f_blockedA : Option Addr) (f_blockedC : Nat) (hv_f_blocked : View w0 (old w0 none_) f_blockedA f_blockedC f.blocked) (f_bestA : Option Addr) (f_bestC : Nat) (hv_f_best : View w0 (old w0 none_) f_bestA f_bestC f.best) (fg : Nat) (hb_f : ElemAt w0 (old w0 none_) (some ⟨fg, 0, none⟩) 0 [iv f.g.W, iv f.g.H, iv f.g.Layers, .slice f_g_BlockedA f.g.Blocked.length f_g_BlockedC, iv f.c.Step, iv f.c.Via, iv f.c.Turn, iv f.c.Against, .slice f_blockedA f.blocked.length f_blockedC, .slice f_bestA f.best.length f_bestC]) (Q : Int → Prop) (h : M_field_at f c Q) :
  Ret Try.prog 63 #[(pn fg 0), .agg #[iv c.X, iv c.Y, iv c.Layer]] w0 fun v w' => ∃ (r0 : Int), v = iv r0 ∧ Q r0 ∧ Sat w0 none_ [] w' := by
 refine fn_enter Try.func63 rfl Try.ntmps63 rfl (fs := [(0, (pn fg 0)), (1, .agg #[iv c.X, iv c.Y, iv c.Layer])]) rfl (fun a hf => ?_)
 have hs := Sat.start w0 none_
 unfold M_field_at at h
 refine wp_seq (R.list ?_)
 refine S.box hf hs rfl rfl rfl [iv c.X, iv c.Y, iv c.Layer] rfl rfl rfl (fun g1 a w hf hs => ?_)
 refine S.p hf hs (iv 0) rfl rfl fun a hf => ?_
 refine R.nil (X.then_ (wp_seq ?_))
 refine R.draw mo (by kernel_rfl) hs ?_
 refine D.v hf ((pn g1 2)) rfl (V.fieldBox rfl rfl Try.runUnderlying28 rfl Try.sizeOf3 rfl rfl) fun a hf => ?_
 refine D.v hf (iv c.Layer) rfl (V.loadBox 0 rfl rfl rfl Try.isAgg3 Try.sizeOf3 rfl rfl) fun a hf => ?_
 refine D.p hf ((pn fg 0)) rfl rfl fun a hf => ?_
 refine D.p hf ((pn fg 0)) rfl rfl fun a hf => ?_
 refine D.v hf ((pn fg 0)) rfl (V.fieldBox rfl rfl Try.runUnderlying72 rfl Try.sizeOf24 rfl rfl) fun a hf => ?_
 refine D.v hf ((pn fg 1)) rfl (V.fieldBox rfl rfl Try.runUnderlying24 rfl Try.sizeOf3 rfl rfl) fun a hf => ?_
 refine D.v hf (iv f.g.H) rfl (V.loadAt0 (off := 1) (Ag.args _ _ _) hb_f rfl rfl Try.isAgg3 Try.sizeOf3 rfl rfl) fun a hf => ?_
 refine D.p hf (iv (w64 (c.Layer * f.g.H))) rfl rfl fun a hf => ?_
 refine D.v hf ((pn g1 1)) rfl (V.fieldBox rfl rfl Try.runUnderlying28 rfl Try.sizeOf3 rfl rfl) fun a hf => ?_
 refine D.v hf (iv c.Y) rfl (V.loadBox 0 rfl rfl rfl Try.isAgg3 Try.sizeOf3 rfl rfl) fun a hf => ?_
 refine D.p hf (iv (w64 ((w64 (c.Layer * f.g.H)) + c.Y))) rfl rfl fun a hf => ?_
 refine D.p hf ((pn fg 0)) rfl rfl fun a hf => ?_
 refine D.p hf ((pn fg 0)) rfl rfl fun a hf => ?_
 refine D.v hf ((pn fg 0)) rfl (V.fieldBox rfl rfl Try.runUnderlying72 rfl Try.sizeOf24 rfl rfl) fun a hf => ?_
 refine D.v hf ((pn fg 0)) rfl (V.fieldBox rfl rfl Try.runUnderlying24 rfl Try.sizeOf3 rfl rfl) fun a hf => ?_
 refine D.v hf (iv f.g.W) rfl (V.loadAt0 (off := 0) (Ag.args _ _ _) hb_f rfl rfl Try.isAgg3 Try.sizeOf3 rfl rfl) fun a hf => ?_
 refine D.p hf (iv (w64 ((w64 ((w64 (c.Layer * f.g.H)) + c.Y)) * f.g.W))) rfl rfl fun a hf => ?_
 refine D.v hf ((pn g1 0)) rfl (V.fieldBox rfl rfl Try.runUnderlying28 rfl Try.sizeOf3 rfl rfl) fun a hf => ?_
 refine D.v hf (iv c.X) rfl (V.loadBox 0 rfl rfl rfl Try.isAgg3 Try.sizeOf3 rfl rfl) fun a hf => ?_
 refine D.p hf (iv (w64 ((w64 ((w64 ((w64 (c.Layer * f.g.H)) + c.Y)) * f.g.W)) + c.X))) rfl rfl fun a hf => ?_
 refine D.p hf (iv (w64 ((w64 ((w64 ((w64 (c.Layer * f.g.H)) + c.Y)) * f.g.W)) + c.X))) rfl rfl fun a hf => ?_
 refine D.done (fun w hs => ?_)
 refine X.then_ (wp_ret ?_)
 exact L.ret hf (run_results1 Try.results63 (ResIs.tmp hf rfl)) ⟨(w64 ((w64 ((w64 ((w64 (c.Layer * f.g.H)) + c.Y)) * f.g.W)) + c.X)), rfl, h, hs.nil⟩
set_option linter.unusedVariables false
def M_field_cell (f : R7Field) (i : Int) (Q : Cell → Prop) : Prop :=
  must (f.g.W ≠ 0) (must (f.g.W ≠ 0) (must (f.g.H ≠ 0) (must (f.g.W ≠ 0) (must (f.g.H ≠ 0) (Q (⟨i.tmod f.g.W, (w64 (i.tdiv f.g.W)).tmod f.g.H, w64 ((w64 (i.tdiv f.g.W)).tdiv f.g.H)⟩ : Cell))))))
set_option maxHeartbeats 1000000 in
theorem R_field_cell (f : R7Field) (i : Int) (w0 : World) (f_g_BlockedA : Option Addr) (f_g_BlockedC : Nat) (hv_f_g_Blocked : View w0 (old w0 none_) f_g_BlockedA f_g_BlockedC f.g.Blocked) (f_blockedA : Option Addr) (f_blockedC : Nat) (hv_f_blocked : View w0 (old w0 none_) f_blockedA f_blockedC f.blocked) (f_bestA : Option Addr) (f_bestC : Nat) (hv_f_best : View w0 (old w0 none_) f_bestA f_bestC f.best) (fg : Nat) (hb_f : ElemAt w0 (old w0 none_) (some ⟨fg, 0, none⟩) 0 [iv f.g.W, iv f.g.H, iv f.g.Layers, .slice f_g_BlockedA f.g.Blocked.length f_g_BlockedC, iv f.c.Step, iv f.c.Via, iv f.c.Turn, iv f.c.Against, .slice f_blockedA f.blocked.length f_blockedC, .slice f_bestA f.best.length f_bestC]) (Q : Cell → Prop) (h : M_field_cell f i Q) :
  Ret Try.prog 60 #[(pn fg 0), iv i] w0 fun v w' => ∃ (r0 : Cell), v = .agg #[iv r0.X, iv r0.Y, iv r0.Layer] ∧ Q r0 ∧ Sat w0 none_ [] w' := by
 refine fn_enter Try.func60 rfl Try.ntmps60 rfl (fs := [(0, (pn fg 0)), (1, iv i)]) rfl (fun a hf => ?_)
 have hs := Sat.start w0 none_
 unfold M_field_cell at h
 refine wp_seq (R.list ?_)
 refine S.alloc hf hs rfl rfl rfl [iv 0, iv 0, iv 0] rfl Try.zeroValue28 rfl (fun g1 a w hf hs => ?_)
 refine R.nil (X.then_ (wp_seq ?_))
 refine M.start 34 (Sat w0 none_ [hbox g1 28 [iv 0, iv 0, iv 0]]) mo ?_
 replace hs := hs.drew
 refine M.v hf hs (iv i) 0 rfl rfl (by kernel_rfl) (V.pure rfl) fun a hf => ?_
 refine M.v hf hs ((pn fg 0)) 1 rfl rfl (by kernel_rfl) (V.pure rfl) fun a hf => ?_
 refine M.v hf hs ((pn fg 0)) 2 rfl rfl (by kernel_rfl) (V.pure rfl) fun a hf => ?_
 refine M.v hf hs ((pn fg 0)) 3 rfl rfl (by kernel_rfl) (V.fieldBox rfl rfl Try.runUnderlying72 rfl Try.sizeOf24 rfl rfl) fun a hf => ?_
 refine M.v hf hs ((pn fg 0)) 4 rfl rfl (by kernel_rfl) (V.fieldBox rfl rfl Try.runUnderlying24 rfl Try.sizeOf3 rfl rfl) fun a hf => ?_
 refine M.v hf hs (iv f.g.W) 5 rfl rfl (by kernel_rfl) (V.loadAt0 (off := 0) (Ag.args _ _ _) hb_f rfl rfl Try.isAgg3 Try.sizeOf3 rfl rfl) fun a hf => ?_
 obtain ⟨hne, h⟩ := h
 refine M.v hf hs (iv (i.tmod f.g.W)) 6 rfl rfl (by kernel_rfl) (V.rem rfl rfl rfl hne) fun a hf => ?_
 refine M.v hf hs (iv i) 7 rfl rfl (by kernel_rfl) (V.pure rfl) fun a hf => ?_
 refine M.v hf hs ((pn fg 0)) 8 rfl rfl (by kernel_rfl) (V.pure rfl) fun a hf => ?_
 refine M.v hf hs ((pn fg 0)) 9 rfl rfl (by kernel_rfl) (V.pure rfl) fun a hf => ?_
 refine M.v hf hs ((pn fg 0)) 10 rfl rfl (by kernel_rfl) (V.fieldBox rfl rfl Try.runUnderlying72 rfl Try.sizeOf24 rfl rfl) fun a hf => ?_
 refine M.v hf hs ((pn fg 0)) 11 rfl rfl (by kernel_rfl) (V.fieldBox rfl rfl Try.runUnderlying24 rfl Try.sizeOf3 rfl rfl) fun a hf => ?_
 refine M.v hf hs (iv f.g.W) 12 rfl rfl (by kernel_rfl) (V.loadAt0 (off := 0) (Ag.args _ _ _) hb_f rfl rfl Try.isAgg3 Try.sizeOf3 rfl rfl) fun a hf => ?_
 obtain ⟨hne, h⟩ := h
 refine M.v hf hs (iv (w64 (i.tdiv f.g.W))) 13 rfl rfl (by kernel_rfl) (V.quo rfl rfl rfl hne) fun a hf => ?_
 refine M.v hf hs ((pn fg 0)) 14 rfl rfl (by kernel_rfl) (V.pure rfl) fun a hf => ?_
 refine M.v hf hs ((pn fg 0)) 15 rfl rfl (by kernel_rfl) (V.pure rfl) fun a hf => ?_
 refine M.v hf hs ((pn fg 0)) 16 rfl rfl (by kernel_rfl) (V.fieldBox rfl rfl Try.runUnderlying72 rfl Try.sizeOf24 rfl rfl) fun a hf => ?_
 refine M.v hf hs ((pn fg 1)) 17 rfl rfl (by kernel_rfl) (V.fieldBox rfl rfl Try.runUnderlying24 rfl Try.sizeOf3 rfl rfl) fun a hf => ?_
 refine M.v hf hs (iv f.g.H) 18 rfl rfl (by kernel_rfl) (V.loadAt0 (off := 1) (Ag.args _ _ _) hb_f rfl rfl Try.isAgg3 Try.sizeOf3 rfl rfl) fun a hf => ?_
 obtain ⟨hne, h⟩ := h
 refine M.v hf hs (iv ((w64 (i.tdiv f.g.W)).tmod f.g.H)) 19 rfl rfl (by kernel_rfl) (V.rem rfl rfl rfl hne) fun a hf => ?_
 refine M.v hf hs (iv i) 20 rfl rfl (by kernel_rfl) (V.pure rfl) fun a hf => ?_
 refine M.v hf hs ((pn fg 0)) 21 rfl rfl (by kernel_rfl) (V.pure rfl) fun a hf => ?_
 refine M.v hf hs ((pn fg 0)) 22 rfl rfl (by kernel_rfl) (V.pure rfl) fun a hf => ?_
 refine M.v hf hs ((pn fg 0)) 23 rfl rfl (by kernel_rfl) (V.fieldBox rfl rfl Try.runUnderlying72 rfl Try.sizeOf24 rfl rfl) fun a hf => ?_
 refine M.v hf hs ((pn fg 0)) 24 rfl rfl (by kernel_rfl) (V.fieldBox rfl rfl Try.runUnderlying24 rfl Try.sizeOf3 rfl rfl) fun a hf => ?_
 refine M.v hf hs (iv f.g.W) 25 rfl rfl (by kernel_rfl) (V.loadAt0 (off := 0) (Ag.args _ _ _) hb_f rfl rfl Try.isAgg3 Try.sizeOf3 rfl rfl) fun a hf => ?_
 obtain ⟨hne, h⟩ := h
 refine M.v hf hs (iv (w64 (i.tdiv f.g.W))) 26 rfl rfl (by kernel_rfl) (V.quo rfl rfl rfl hne) fun a hf => ?_
 refine M.v hf hs ((pn fg 0)) 27 rfl rfl (by kernel_rfl) (V.pure rfl) fun a hf => ?_
 refine M.v hf hs ((pn fg 0)) 28 rfl rfl (by kernel_rfl) (V.pure rfl) fun a hf => ?_
 refine M.v hf hs ((pn fg 0)) 29 rfl rfl (by kernel_rfl) (V.fieldBox rfl rfl Try.runUnderlying72 rfl Try.sizeOf24 rfl rfl) fun a hf => ?_
 refine M.v hf hs ((pn fg 1)) 30 rfl rfl (by kernel_rfl) (V.fieldBox rfl rfl Try.runUnderlying24 rfl Try.sizeOf3 rfl rfl) fun a hf => ?_
 refine M.v hf hs (iv f.g.H) 31 rfl rfl (by kernel_rfl) (V.loadAt0 (off := 1) (Ag.args _ _ _) hb_f rfl rfl Try.isAgg3 Try.sizeOf3 rfl rfl) fun a hf => ?_
 obtain ⟨hne, h⟩ := h
 refine M.v hf hs (iv (w64 ((w64 (i.tdiv f.g.W)).tdiv f.g.H))) 32 rfl rfl (by kernel_rfl) (V.quo rfl rfl rfl hne) fun a hf => ?_
 refine M.v hf hs (.agg #[iv (i.tmod f.g.W), iv ((w64 (i.tdiv f.g.W)).tmod f.g.H), iv (w64 ((w64 (i.tdiv f.g.W)).tdiv f.g.H))]) 33 rfl rfl (by kernel_rfl) (V.build (places := #[(0, 1), (1, 1), (2, 1)]) rfl Try.zeroValue28 Try.runUnderlying28 (by intro w; simp [Try.sizeOf3]) rfl rfl) fun a hf => ?_
 refine M.last (i := 34) rfl (by kernel_rfl) (by kernel_rfl) ?_
 refine S.storeBox 0 hf hs rfl rfl [iv (i.tmod f.g.W), iv ((w64 (i.tdiv f.g.W)).tmod f.g.H), iv (w64 ((w64 (i.tdiv f.g.W)).tdiv f.g.H))] [iv (i.tmod f.g.W), iv ((w64 (i.tdiv f.g.W)).tmod f.g.H), iv (w64 ((w64 (i.tdiv f.g.W)).tdiv f.g.H))] rfl rfl rfl rfl rfl Try.sizeOf28 rfl rfl rfl rfl (fun a w hf hs => ?_)
 refine R.nil (X.then_ ?_)
 refine M.done (by kernel_rfl) ?_
 refine X.then_ (wp_ret ?_)
 have hsR := hs
 exact L.ret hf (run_results1 Try.results60 (ResIs.box hf hsR 0 rfl rfl Try.isAgg28 Try.sizeOf28 rfl rfl)) ⟨(⟨i.tmod f.g.W, (w64 (i.tdiv f.g.W)).tmod f.g.H, w64 ((w64 (i.tdiv f.g.W)).tdiv f.g.H)⟩ : Cell), rfl, h, hs.nil⟩
set_option linter.unusedVariables false
def M_field_neighbours_k2 (xk1 : Cell) (l2 : List Cell) (next1 : List Cell → Prop) (c1 : Bool) : Prop :=
  cnd c1 (must (room (l2 ++ [xk1]).length 24) (next1 (l2 ++ [xk1]))) (next1 l2)
def M_field_neighbours_L1 (f : R7Field) (k1 : Nat) (xk1 : Cell) (l2 : List Cell) (next1 : List Cell → Prop) : Prop :=
  M_ref7_isCell f.g xk1 fun y1 => cnd y1 (M_field_at f xk1 fun y2 => idx f.blocked y2 fun x1 => M_field_neighbours_k2 xk1 l2 next1 (!x1)) (M_field_neighbours_k2 xk1 l2 next1 false)
def M_field_neighbours (f : R7Field) (c : Cell) (Q : (List Cell) → Prop) : Prop :=
  forIn' (fun k x (s : List Cell) next => M_field_neighbours_L1 f k x s (fun l2 => next l2)) (fun (s : List Cell) => (fun (l2 : List Cell) => Q l2) s) ([(⟨c.X, c.Y, w64 (c.Layer - 1)⟩ : Cell), (⟨c.X, w64 (c.Y - 1), c.Layer⟩ : Cell), (⟨w64 (c.X - 1), c.Y, c.Layer⟩ : Cell), (⟨w64 (c.X + 1), c.Y, c.Layer⟩ : Cell), (⟨c.X, w64 (c.Y + 1), c.Layer⟩ : Cell), (⟨c.X, c.Y, w64 (c.Layer + 1)⟩ : Cell)] : List Cell) 0 ([] : List Cell)
set_option maxHeartbeats 1000000 in
theorem R_field_neighbours (f : R7Field) (c : Cell) (w0 : World) (f_g_BlockedA : Option Addr) (f_g_BlockedC : Nat) (hv_f_g_Blocked : View w0 (old w0 none_) f_g_BlockedA f_g_BlockedC f.g.Blocked) (f_blockedA : Option Addr) (f_blockedC : Nat) (hv_f_blocked : View w0 (old w0 none_) f_blockedA f_blockedC f.blocked) (f_bestA : Option Addr) (f_bestC : Nat) (hv_f_best : View w0 (old w0 none_) f_bestA f_bestC f.best) (fg : Nat) (hb_f : ElemAt w0 (old w0 none_) (some ⟨fg, 0, none⟩) 0 [iv f.g.W, iv f.g.H, iv f.g.Layers, .slice f_g_BlockedA f.g.Blocked.length f_g_BlockedC, iv f.c.Step, iv f.c.Via, iv f.c.Turn, iv f.c.Against, .slice f_blockedA f.blocked.length f_blockedC, .slice f_bestA f.best.length f_bestC]) (Q : (List Cell) → Prop) (h : M_field_neighbours f c Q) :
  Ret Try.prog 78 #[(pn fg 0), .agg #[iv c.X, iv c.Y, iv c.Layer]] w0 fun v w' => ∃ (r0 : (List Cell)) (r0A : Option Addr) (r0C : Nat), v = .slice r0A r0.length r0C ∧ Q r0 ∧ Sat w0 none_ [hown 28 r0A r0C r0] w' := by
 refine fn_enter Try.func78 rfl Try.ntmps78 rfl (fs := [(0, (pn fg 0)), (1, .agg #[iv c.X, iv c.Y, iv c.Layer])]) rfl (fun a hf => ?_)
 have hs := Sat.start w0 none_
 unfold M_field_neighbours at h
 refine wp_seq (R.list ?_)
 refine S.box hf hs rfl rfl rfl [iv c.X, iv c.Y, iv c.Layer] rfl rfl rfl (fun g1 a w hf hs => ?_)
 refine S.p hf hs (.slice none 0 0) rfl rfl fun a hf => ?_
 refine R.nil (X.then_ (wp_seq (R.list ?_)))
 refine S.p hf hs (.slice none 0 0) rfl rfl fun a hf => ?_
 refine R.nil (X.then_ (wp_seq (wp_seq (R.list ?_))))
 refine S.v hf hs ((pn g1 0)) rfl (V.fieldBox rfl rfl Try.runUnderlying28 rfl Try.sizeOf3 rfl rfl) fun a hf => ?_
 refine S.v hf hs (iv c.X) rfl (V.loadBox 0 rfl rfl rfl Try.isAgg3 Try.sizeOf3 rfl rfl) fun a hf => ?_
 refine S.v hf hs ((pn g1 1)) rfl (V.fieldBox rfl rfl Try.runUnderlying28 rfl Try.sizeOf3 rfl rfl) fun a hf => ?_
 refine S.v hf hs (iv c.Y) rfl (V.loadBox 0 rfl rfl rfl Try.isAgg3 Try.sizeOf3 rfl rfl) fun a hf => ?_
 refine S.v hf hs ((pn g1 2)) rfl (V.fieldBox rfl rfl Try.runUnderlying28 rfl Try.sizeOf3 rfl rfl) fun a hf => ?_
 refine S.v hf hs (iv c.Layer) rfl (V.loadBox 0 rfl rfl rfl Try.isAgg3 Try.sizeOf3 rfl rfl) fun a hf => ?_
 refine S.p hf hs (iv (w64 (c.Layer - 1))) rfl rfl fun a hf => ?_
 refine S.v hf hs (.agg #[iv c.X, iv c.Y, iv (w64 (c.Layer - 1))]) rfl (V.build (places := #[(0, 1), (1, 1), (2, 1)]) rfl Try.zeroValue28 Try.runUnderlying28 (by intro w; simp [Try.sizeOf3]) rfl rfl) fun a hf => ?_
 refine S.v hf hs ((pn g1 0)) rfl (V.fieldBox rfl rfl Try.runUnderlying28 rfl Try.sizeOf3 rfl rfl) fun a hf => ?_
 refine S.v hf hs (iv c.X) rfl (V.loadBox 0 rfl rfl rfl Try.isAgg3 Try.sizeOf3 rfl rfl) fun a hf => ?_
 refine S.v hf hs ((pn g1 1)) rfl (V.fieldBox rfl rfl Try.runUnderlying28 rfl Try.sizeOf3 rfl rfl) fun a hf => ?_
 refine S.v hf hs (iv c.Y) rfl (V.loadBox 0 rfl rfl rfl Try.isAgg3 Try.sizeOf3 rfl rfl) fun a hf => ?_
 refine S.p hf hs (iv (w64 (c.Y - 1))) rfl rfl fun a hf => ?_
 refine S.v hf hs ((pn g1 2)) rfl (V.fieldBox rfl rfl Try.runUnderlying28 rfl Try.sizeOf3 rfl rfl) fun a hf => ?_
 refine S.v hf hs (iv c.Layer) rfl (V.loadBox 0 rfl rfl rfl Try.isAgg3 Try.sizeOf3 rfl rfl) fun a hf => ?_
 refine S.v hf hs (.agg #[iv c.X, iv (w64 (c.Y - 1)), iv c.Layer]) rfl (V.build (places := #[(0, 1), (1, 1), (2, 1)]) rfl Try.zeroValue28 Try.runUnderlying28 (by intro w; simp [Try.sizeOf3]) rfl rfl) fun a hf => ?_
 refine S.v hf hs ((pn g1 0)) rfl (V.fieldBox rfl rfl Try.runUnderlying28 rfl Try.sizeOf3 rfl rfl) fun a hf => ?_
 refine S.v hf hs (iv c.X) rfl (V.loadBox 0 rfl rfl rfl Try.isAgg3 Try.sizeOf3 rfl rfl) fun a hf => ?_
 refine S.p hf hs (iv (w64 (c.X - 1))) rfl rfl fun a hf => ?_
 refine S.v hf hs ((pn g1 1)) rfl (V.fieldBox rfl rfl Try.runUnderlying28 rfl Try.sizeOf3 rfl rfl) fun a hf => ?_
 refine S.v hf hs (iv c.Y) rfl (V.loadBox 0 rfl rfl rfl Try.isAgg3 Try.sizeOf3 rfl rfl) fun a hf => ?_
 refine S.v hf hs ((pn g1 2)) rfl (V.fieldBox rfl rfl Try.runUnderlying28 rfl Try.sizeOf3 rfl rfl) fun a hf => ?_
 refine S.v hf hs (iv c.Layer) rfl (V.loadBox 0 rfl rfl rfl Try.isAgg3 Try.sizeOf3 rfl rfl) fun a hf => ?_
 refine S.v hf hs (.agg #[iv (w64 (c.X - 1)), iv c.Y, iv c.Layer]) rfl (V.build (places := #[(0, 1), (1, 1), (2, 1)]) rfl Try.zeroValue28 Try.runUnderlying28 (by intro w; simp [Try.sizeOf3]) rfl rfl) fun a hf => ?_
 refine S.v hf hs ((pn g1 0)) rfl (V.fieldBox rfl rfl Try.runUnderlying28 rfl Try.sizeOf3 rfl rfl) fun a hf => ?_
 refine S.v hf hs (iv c.X) rfl (V.loadBox 0 rfl rfl rfl Try.isAgg3 Try.sizeOf3 rfl rfl) fun a hf => ?_
 refine S.p hf hs (iv (w64 (c.X + 1))) rfl rfl fun a hf => ?_
 refine S.v hf hs ((pn g1 1)) rfl (V.fieldBox rfl rfl Try.runUnderlying28 rfl Try.sizeOf3 rfl rfl) fun a hf => ?_
 refine S.v hf hs (iv c.Y) rfl (V.loadBox 0 rfl rfl rfl Try.isAgg3 Try.sizeOf3 rfl rfl) fun a hf => ?_
 refine S.v hf hs ((pn g1 2)) rfl (V.fieldBox rfl rfl Try.runUnderlying28 rfl Try.sizeOf3 rfl rfl) fun a hf => ?_
 refine S.v hf hs (iv c.Layer) rfl (V.loadBox 0 rfl rfl rfl Try.isAgg3 Try.sizeOf3 rfl rfl) fun a hf => ?_
 refine S.v hf hs (.agg #[iv (w64 (c.X + 1)), iv c.Y, iv c.Layer]) rfl (V.build (places := #[(0, 1), (1, 1), (2, 1)]) rfl Try.zeroValue28 Try.runUnderlying28 (by intro w; simp [Try.sizeOf3]) rfl rfl) fun a hf => ?_
 refine S.v hf hs ((pn g1 0)) rfl (V.fieldBox rfl rfl Try.runUnderlying28 rfl Try.sizeOf3 rfl rfl) fun a hf => ?_
 refine S.v hf hs (iv c.X) rfl (V.loadBox 0 rfl rfl rfl Try.isAgg3 Try.sizeOf3 rfl rfl) fun a hf => ?_
 refine S.v hf hs ((pn g1 1)) rfl (V.fieldBox rfl rfl Try.runUnderlying28 rfl Try.sizeOf3 rfl rfl) fun a hf => ?_
 refine S.v hf hs (iv c.Y) rfl (V.loadBox 0 rfl rfl rfl Try.isAgg3 Try.sizeOf3 rfl rfl) fun a hf => ?_
 refine S.p hf hs (iv (w64 (c.Y + 1))) rfl rfl fun a hf => ?_
 refine S.v hf hs ((pn g1 2)) rfl (V.fieldBox rfl rfl Try.runUnderlying28 rfl Try.sizeOf3 rfl rfl) fun a hf => ?_
 refine S.v hf hs (iv c.Layer) rfl (V.loadBox 0 rfl rfl rfl Try.isAgg3 Try.sizeOf3 rfl rfl) fun a hf => ?_
 refine S.v hf hs (.agg #[iv c.X, iv (w64 (c.Y + 1)), iv c.Layer]) rfl (V.build (places := #[(0, 1), (1, 1), (2, 1)]) rfl Try.zeroValue28 Try.runUnderlying28 (by intro w; simp [Try.sizeOf3]) rfl rfl) fun a hf => ?_
 refine S.v hf hs ((pn g1 0)) rfl (V.fieldBox rfl rfl Try.runUnderlying28 rfl Try.sizeOf3 rfl rfl) fun a hf => ?_
 refine S.v hf hs (iv c.X) rfl (V.loadBox 0 rfl rfl rfl Try.isAgg3 Try.sizeOf3 rfl rfl) fun a hf => ?_
 refine S.v hf hs ((pn g1 1)) rfl (V.fieldBox rfl rfl Try.runUnderlying28 rfl Try.sizeOf3 rfl rfl) fun a hf => ?_
 refine S.v hf hs (iv c.Y) rfl (V.loadBox 0 rfl rfl rfl Try.isAgg3 Try.sizeOf3 rfl rfl) fun a hf => ?_
 refine S.v hf hs ((pn g1 2)) rfl (V.fieldBox rfl rfl Try.runUnderlying28 rfl Try.sizeOf3 rfl rfl) fun a hf => ?_
 refine S.v hf hs (iv c.Layer) rfl (V.loadBox 0 rfl rfl rfl Try.isAgg3 Try.sizeOf3 rfl rfl) fun a hf => ?_
 refine S.p hf hs (iv (w64 (c.Layer + 1))) rfl rfl fun a hf => ?_
 refine S.v hf hs (.agg #[iv c.X, iv c.Y, iv (w64 (c.Layer + 1))]) rfl (V.build (places := #[(0, 1), (1, 1), (2, 1)]) rfl Try.zeroValue28 Try.runUnderlying28 (by intro w; simp [Try.sizeOf3]) rfl rfl) fun a hf => ?_
 refine S.buildSlice hf hs rfl rfl rfl (α := Cell) [(⟨c.X, c.Y, w64 (c.Layer - 1)⟩ : Cell), (⟨c.X, w64 (c.Y - 1), c.Layer⟩ : Cell), (⟨w64 (c.X - 1), c.Y, c.Layer⟩ : Cell), (⟨w64 (c.X + 1), c.Y, c.Layer⟩ : Cell), (⟨c.X, w64 (c.Y + 1), c.Layer⟩ : Cell), (⟨c.X, c.Y, w64 (c.Layer + 1)⟩ : Cell)] rfl rfl Try.runUnderlying22 Try.sizeOf28 Try.zeroValue28 (by kernel_rfl) rfl (by decide) (by decide) (fun A1 a w hf hs => ?_)
 refine S.v hf hs (iv (([(⟨c.X, c.Y, w64 (c.Layer - 1)⟩ : Cell), (⟨c.X, w64 (c.Y - 1), c.Layer⟩ : Cell), (⟨w64 (c.X - 1), c.Y, c.Layer⟩ : Cell), (⟨w64 (c.X + 1), c.Y, c.Layer⟩ : Cell), (⟨c.X, w64 (c.Y + 1), c.Layer⟩ : Cell), (⟨c.X, c.Y, w64 (c.Layer + 1)⟩ : Cell)] : List Cell).length : Int)) rfl (V.len rfl rfl Try.runUnderlying22) fun a hf => ?_
 refine S.p hf hs (iv 0) rfl rfl fun a hf => ?_
 refine R.nil (X.then_ (wp_block ?_))
 replace hs := hs.nilOwn (α := Cell) 28
 have hlenk1 := (hs.ownView 1 rfl).len64
 refine C.range (fun (ll : List Cell) a w => ∃ (k1 : Nat) (l2 : List Cell) (l2A : Option Addr) (l2C : Nat), ([(⟨c.X, c.Y, w64 (c.Layer - 1)⟩ : Cell), (⟨c.X, w64 (c.Y - 1), c.Layer⟩ : Cell), (⟨w64 (c.X - 1), c.Y, c.Layer⟩ : Cell), (⟨w64 (c.X + 1), c.Y, c.Layer⟩ : Cell), (⟨c.X, w64 (c.Y + 1), c.Layer⟩ : Cell), (⟨c.X, c.Y, w64 (c.Layer + 1)⟩ : Cell)] : List Cell).drop k1 = ll ∧ k1 + ll.length = ([(⟨c.X, c.Y, w64 (c.Layer - 1)⟩ : Cell), (⟨c.X, w64 (c.Y - 1), c.Layer⟩ : Cell), (⟨w64 (c.X - 1), c.Y, c.Layer⟩ : Cell), (⟨w64 (c.X + 1), c.Y, c.Layer⟩ : Cell), (⟨c.X, w64 (c.Y + 1), c.Layer⟩ : Cell), (⟨c.X, c.Y, w64 (c.Layer + 1)⟩ : Cell)] : List Cell).length ∧ forIn' (fun k x (s : List Cell) next => M_field_neighbours_L1 f k x s (fun l2 => next l2)) (fun (s : List Cell) => (fun (l2 : List Cell) => Q l2) s) ll k1 l2 ∧ FrOk 86 [(58, iv (k1 : Int)), (0, (pn fg 0)), (5, .slice l2A l2.length l2C), (56, .slice A1 ([(⟨c.X, c.Y, w64 (c.Layer - 1)⟩ : Cell), (⟨c.X, w64 (c.Y - 1), c.Layer⟩ : Cell), (⟨w64 (c.X - 1), c.Y, c.Layer⟩ : Cell), (⟨w64 (c.X + 1), c.Y, c.Layer⟩ : Cell), (⟨c.X, w64 (c.Y + 1), c.Layer⟩ : Cell), (⟨c.X, c.Y, w64 (c.Layer + 1)⟩ : Cell)] : List Cell).length 6), (57, iv (([(⟨c.X, c.Y, w64 (c.Layer - 1)⟩ : Cell), (⟨c.X, w64 (c.Y - 1), c.Layer⟩ : Cell), (⟨w64 (c.X - 1), c.Y, c.Layer⟩ : Cell), (⟨w64 (c.X + 1), c.Y, c.Layer⟩ : Cell), (⟨c.X, w64 (c.Y + 1), c.Layer⟩ : Cell), (⟨c.X, c.Y, w64 (c.Layer + 1)⟩ : Cell)] : List Cell).length : Int))] a ∧ Sat w0 none_ [hown 28 l2A l2C l2, hown 28 A1 6 ([(⟨c.X, c.Y, w64 (c.Layer - 1)⟩ : Cell), (⟨c.X, w64 (c.Y - 1), c.Layer⟩ : Cell), (⟨w64 (c.X - 1), c.Y, c.Layer⟩ : Cell), (⟨w64 (c.X + 1), c.Y, c.Layer⟩ : Cell), (⟨c.X, w64 (c.Y + 1), c.Layer⟩ : Cell), (⟨c.X, c.Y, w64 (c.Layer + 1)⟩ : Cell)] : List Cell), hbox g1 28 [iv c.X, iv c.Y, iv c.Layer]] w) ([(⟨c.X, c.Y, w64 (c.Layer - 1)⟩ : Cell), (⟨c.X, w64 (c.Y - 1), c.Layer⟩ : Cell), (⟨w64 (c.X - 1), c.Y, c.Layer⟩ : Cell), (⟨w64 (c.X + 1), c.Y, c.Layer⟩ : Cell), (⟨c.X, w64 (c.Y + 1), c.Layer⟩ : Cell), (⟨c.X, c.Y, w64 (c.Layer + 1)⟩ : Cell)] : List Cell) ⟨0, ([] : List Cell), none, 0, rfl, Nat.zero_add _, h, (((((hf.nil.cons (hf.get 57 _ rfl)).cons (hf.get 56 _ rfl)).cons (hf.get 5 _ rfl)).cons (hf.get 0 _ rfl)).cons (hf.get 58 _ rfl)), hs⟩ ?_
 clear h hf hs
 rintro llk1 a w ⟨k1, l2, l2A, l2C, hlk1, hkk1, h, hf, hs⟩
 cases llk1 with
 | nil =>
  have hc := range_done hkk1
  replace h : (fun (l2 : List Cell) => Q l2) l2 := h
  refine wp_seq (R.list ?_)
  refine S.v hf hs (.bool false) rfl (V.cmp false rfl rfl rfl rfl hc) fun a hf => ?_
  refine R.nil (X.then_ (wp_seq ?_))
  refine C.no hf rfl ?_
  refine wp_exit (X.then_exit (X.then_exit (X.blk_exit (X.then_ (wp_seq (R.list ?_))))))
  refine S.p hf hs (.slice l2A l2.length l2C) rfl rfl fun a hf => ?_
  refine S.p hf hs (.slice l2A l2.length l2C) rfl rfl fun a hf => ?_
  refine R.nil (X.then_ (wp_ret ?_))
  replace hs := hs.take 1
  exact L.ret hf (run_results1 Try.results78 (ResIs.tmp hf rfl)) ⟨l2, l2A, l2C, rfl, h, hs⟩
 | cons xk1 llk1 =>
  have hltk1 := range_lt hkk1; have hc := range_go hkk1; have hxk1 := range_get hlk1
  obtain ⟨next1, hnext1⟩ : ∃ X : List Cell → Prop, X = (fun l2 => forIn' (fun k x (s : List Cell) next => M_field_neighbours_L1 f k x s (fun l2 => next l2)) (fun (s : List Cell) => (fun (l2 : List Cell) => Q l2) s) llk1 (k1 + 1) l2) := ⟨_, rfl⟩
  replace h : M_field_neighbours_L1 f k1 xk1 l2 next1 := by rw [hnext1]; exact h
  unfold M_field_neighbours_L1 at h
  refine wp_seq (R.list ?_)
  refine S.v hf hs (.bool true) rfl (V.cmp true rfl rfl rfl rfl hc) fun a hf => ?_
  refine R.nil (X.then_ (wp_seq ?_))
  refine C.yes hf rfl ?_
  refine wp_skip (X.then_ (wp_seq (wp_block (wp_seq (R.list ?_)))))
  refine S.v hf hs (elemPtr A1 (k1 * 3)) rfl (V.index rfl rfl rfl Try.runUnderlying22 Try.sizeOf28 (hs.ownSome 1 rfl (lt_of_get hxk1)) (Int.natCast_nonneg _) (lt_of_get hxk1) rfl) fun a hf => ?_
  refine S.v hf hs (.agg #[iv xk1.X, iv xk1.Y, iv xk1.Layer]) rfl (V.loadOwn (off := 0) 1 rfl hxk1 rfl rfl rfl Try.isAgg28 Try.sizeOf28 rfl rfl) fun a hf => ?_
  refine S.alloc hf hs rfl rfl rfl [iv 0, iv 0, iv 0] rfl Try.zeroValue28 rfl (fun g2 a w hf hs => ?_)
  refine S.storeBox 0 hf hs rfl rfl [iv xk1.X, iv xk1.Y, iv xk1.Layer] [iv xk1.X, iv xk1.Y, iv xk1.Layer] rfl rfl rfl rfl rfl Try.sizeOf28 rfl rfl rfl rfl (fun a w hf hs => ?_)
  refine R.nil (X.then_ (wp_seq ?_))
  refine C.cut (J := fun a w => ∃ (c1 : Bool), M_field_neighbours_k2 xk1 l2 next1 c1 ∧ FrOk 86 [(0, (pn fg 0)), (5, .slice l2A l2.length l2C), (7, (pn g2 0)), (56, .slice A1 ([(⟨c.X, c.Y, w64 (c.Layer - 1)⟩ : Cell), (⟨c.X, w64 (c.Y - 1), c.Layer⟩ : Cell), (⟨w64 (c.X - 1), c.Y, c.Layer⟩ : Cell), (⟨w64 (c.X + 1), c.Y, c.Layer⟩ : Cell), (⟨c.X, w64 (c.Y + 1), c.Layer⟩ : Cell), (⟨c.X, c.Y, w64 (c.Layer + 1)⟩ : Cell)] : List Cell).length 6), (57, iv (([(⟨c.X, c.Y, w64 (c.Layer - 1)⟩ : Cell), (⟨c.X, w64 (c.Y - 1), c.Layer⟩ : Cell), (⟨w64 (c.X - 1), c.Y, c.Layer⟩ : Cell), (⟨w64 (c.X + 1), c.Y, c.Layer⟩ : Cell), (⟨c.X, w64 (c.Y + 1), c.Layer⟩ : Cell), (⟨c.X, c.Y, w64 (c.Layer + 1)⟩ : Cell)] : List Cell).length : Int)), (58, iv (k1 : Int)), (79, .bool c1)] a ∧ Sat w0 none_ [hbox g2 28 [iv xk1.X, iv xk1.Y, iv xk1.Layer], hown 28 l2A l2C l2, hown 28 A1 6 ([(⟨c.X, c.Y, w64 (c.Layer - 1)⟩ : Cell), (⟨c.X, w64 (c.Y - 1), c.Layer⟩ : Cell), (⟨w64 (c.X - 1), c.Y, c.Layer⟩ : Cell), (⟨w64 (c.X + 1), c.Y, c.Layer⟩ : Cell), (⟨c.X, w64 (c.Y + 1), c.Layer⟩ : Cell), (⟨c.X, c.Y, w64 (c.Layer + 1)⟩ : Cell)] : List Cell), hbox g1 28 [iv c.X, iv c.Y, iv c.Layer]] w) ?_ ?_
  ·rintro a w ⟨c1, h, hf, hs⟩
   unfold M_field_neighbours_k2 at h
   refine C.cond hf (b := c1) rfl (fun hc => ?_) (fun hc => ?_)
   ·replace h := h.1 hc
    refine R.list ?_
    refine S.p hf hs (.slice l2A l2.length l2C) rfl rfl fun a hf => ?_
    refine S.v hf hs (.agg #[iv xk1.X, iv xk1.Y, iv xk1.Layer]) rfl (V.loadBox 0 rfl rfl rfl Try.isAgg28 Try.sizeOf28 rfl rfl) fun a hf => ?_
    refine S.build1 hf hs rfl rfl rfl (α := Cell) xk1 rfl rfl rfl Try.runUnderlying22 Try.sizeOf28 Try.zeroValue28 rfl (by decide) (fun A2 a w hf hs => ?_)
    obtain ⟨hroom, h⟩ := h
    refine S.appendCells 2 hf hs rfl rfl rfl rfl rfl rfl rfl Try.underlying22 info28 rfl hroom ((hs.ownView 0 rfl).some_ (i := 0) (by simp)) (hs.ownView 0 rfl) (fun A3 C1 a w hf hs => ?_)
    replace hs := hs.drop
    refine S.p hf hs (.slice A3 (l2 ++ [xk1]).length C1) rfl rfl fun a hf => ?_
    refine R.nil (X.blk (X.then_ (R.list ?_)))
    refine S.v hf hs (iv ((k1 + 1 : Nat) : Int)) rfl (V.incr rfl rfl rfl hltk1 hlenk1) fun a hf => ?_
    refine S.p hf hs (iv ((k1 + 1 : Nat) : Int)) rfl rfl fun a hf => ?_
    refine R.nil (X.then_ ?_)
    exact ⟨xk1, llk1, rfl, k1 + 1, (l2 ++ [xk1]), A3, C1, range_drop hlk1, range_len hkk1, (by rw [hnext1] at h; exact h), (((((hf.nil.cons (hf.get 57 _ rfl)).cons (hf.get 56 _ rfl)).cons (hf.get 5 _ rfl)).cons (hf.get 0 _ rfl)).cons (hf.get 58 _ rfl)), hs.drop⟩
   ·replace h := h.2 hc
    refine wp_skip (X.blk (X.then_ (R.list ?_)))
    refine S.v hf hs (iv ((k1 + 1 : Nat) : Int)) rfl (V.incr rfl rfl rfl hltk1 hlenk1) fun a hf => ?_
    refine S.p hf hs (iv ((k1 + 1 : Nat) : Int)) rfl rfl fun a hf => ?_
    refine R.nil (X.then_ ?_)
    exact ⟨xk1, llk1, rfl, k1 + 1, l2, l2A, l2C, range_drop hlk1, range_len hkk1, (by rw [hnext1] at h; exact h), (((((hf.nil.cons (hf.get 57 _ rfl)).cons (hf.get 56 _ rfl)).cons (hf.get 5 _ rfl)).cons (hf.get 0 _ rfl)).cons (hf.get 58 _ rfl)), hs.drop⟩
  ·skip
   refine H.start (S := Sat w0 none_ [hbox g2 28 [iv xk1.X, iv xk1.Y, iv xk1.Layer], hown 28 l2A l2C l2, hown 28 A1 6 ([(⟨c.X, c.Y, w64 (c.Layer - 1)⟩ : Cell), (⟨c.X, w64 (c.Y - 1), c.Layer⟩ : Cell), (⟨w64 (c.X - 1), c.Y, c.Layer⟩ : Cell), (⟨w64 (c.X + 1), c.Y, c.Layer⟩ : Cell), (⟨c.X, w64 (c.Y + 1), c.Layer⟩ : Cell), (⟨c.X, c.Y, w64 (c.Layer + 1)⟩ : Cell)] : List Cell), hbox g1 28 [iv c.X, iv c.Y, iv c.Layer]]) mo ?_
   replace hs := hs.drew
   refine H.v hf hs ((pn fg 0)) 0 rfl rfl (by kernel_rfl) (V.pure rfl) fun a hf => ?_
   refine H.v hf hs ((pn fg 0)) 1 rfl rfl (by kernel_rfl) (V.pure rfl) fun a hf => ?_
   refine H.v hf hs ((pn fg 0)) 2 rfl rfl (by kernel_rfl) (V.fieldBox rfl rfl Try.runUnderlying72 rfl Try.sizeOf24 rfl rfl) fun a hf => ?_
   refine H.v hf hs (.agg #[iv f.g.W, iv f.g.H, iv f.g.Layers, .slice f_g_BlockedA f.g.Blocked.length f_g_BlockedC]) 3 rfl rfl (by kernel_rfl) (V.loadAt0 (off := 0) (Ag.args _ _ _) hb_f rfl rfl Try.isAgg24 Try.sizeOf24 rfl rfl) fun a hf => ?_
   refine H.v hf hs (.agg #[iv xk1.X, iv xk1.Y, iv xk1.Layer]) 4 rfl rfl (by kernel_rfl) (V.loadBox 0 rfl rfl rfl Try.isAgg28 Try.sizeOf28 rfl rfl) fun a hf => ?_
   refine H.one (i := 5) rfl (by kernel_rfl) ?_
   refine S.call hf rfl rfl rfl (call_fn (vs := [.agg #[iv f.g.W, iv f.g.H, iv f.g.Layers, .slice f_g_BlockedA f.g.Blocked.length f_g_BlockedC], .agg #[iv xk1.X, iv xk1.Y, iv xk1.Layer]]) rfl rfl rfl Try.call55) (R_ref7_isCell f.g xk1 _ f_g_BlockedA f_g_BlockedC ((Ag.args _ _ _).view hv_f_g_Blocked hs) _ h) (fun v a w' hf hr => ?_)
   obtain ⟨y1, rfl, h2, hs2⟩ := hr
   replace h := h2; replace hs := hs.call hs2; clear h2 hs2
   refine R.nil (X.then_ ?_)
   refine ⟨hs, ?_⟩
   refine H.split hf hs (b := y1) (i := 6) rfl rfl rfl rfl (by kernel_rfl) (by kernel_rfl) (by kernel_rfl) (V.pure rfl) (fun hc a hf => ?_) (fun hc a hf => ?_)
   ·replace h := h.1 hc
    refine H.v hf hs ((pn fg 0)) 7 rfl rfl (by kernel_rfl) (V.pure rfl) fun a hf => ?_
    refine H.v hf hs ((pn fg 0)) 8 rfl rfl (by kernel_rfl) (V.pure rfl) fun a hf => ?_
    refine H.v hf hs ((pn fg 8)) 9 rfl rfl (by kernel_rfl) (V.fieldBox rfl rfl Try.runUnderlying72 rfl Try.sizeOf66 rfl rfl) fun a hf => ?_
    refine H.v hf hs (.slice f_blockedA f.blocked.length f_blockedC) 10 rfl rfl (by kernel_rfl) (V.loadAt0 (off := 8) (Ag.args _ _ _) hb_f rfl rfl Try.isAgg66 Try.sizeOf66 rfl rfl) fun a hf => ?_
    refine H.v hf hs ((pn fg 0)) 11 rfl rfl (by kernel_rfl) (V.pure rfl) fun a hf => ?_
    refine H.v hf hs (.agg #[iv xk1.X, iv xk1.Y, iv xk1.Layer]) 12 rfl rfl (by kernel_rfl) (V.loadBox 0 rfl rfl rfl Try.isAgg28 Try.sizeOf28 rfl rfl) fun a hf => ?_
    refine H.one (i := 13) rfl (by kernel_rfl) ?_
    refine S.call hf rfl rfl rfl (call_fn (vs := [(pn fg 0), .agg #[iv xk1.X, iv xk1.Y, iv xk1.Layer]]) rfl rfl rfl Try.call63) (R_field_at f xk1 _ f_g_BlockedA f_g_BlockedC ((Ag.args _ _ _).view hv_f_g_Blocked hs) f_blockedA f_blockedC ((Ag.args _ _ _).view hv_f_blocked hs) f_bestA f_bestC ((Ag.args _ _ _).view hv_f_best hs) fg ((Ag.args _ _ _).elem hb_f hs) _ h) (fun v a w' hf hr => ?_)
    obtain ⟨y2, rfl, h2, hs2⟩ := hr
    replace h := h2; replace hs := hs.call hs2; clear h2 hs2
    refine R.nil (X.then_ ?_)
    refine ⟨hs, ?_⟩
    obtain ⟨h0x1, x1, hx1, h⟩ := h
    refine H.v hf hs (elemPtr f_blockedA (y2.toNat * 1)) 14 rfl rfl (by kernel_rfl) (V.index rfl rfl rfl Try.runUnderlying66 Try.sizeOf4 (hv_f_blocked.some_ (lt_of_get hx1)) h0x1 (lt_of_get hx1) rfl) fun a hf => ?_
    refine H.v hf hs (.bool x1) 15 rfl rfl (by kernel_rfl) (V.loadEl (off := 0) (Ag.args _ _ _) (hv_f_blocked.flat hx1) rfl rfl rfl Try.isAgg4 Try.sizeOf4 rfl rfl) fun a hf => ?_
    refine H.v hf hs (.bool (!x1)) 16 rfl rfl (by kernel_rfl) (V.pure rfl) fun a hf => ?_
    refine H.v hf hs (.bool (!x1)) 17 rfl rfl (by kernel_rfl) (V.pure rfl) fun a hf => ?_
    refine H.done (by kernel_rfl) ?_
    refine X.then_ ?_
    exact ⟨(!x1), h, (((((((hf.nil.cons (hf.get 79 _ rfl)).cons (hf.get 58 _ rfl)).cons (hf.get 57 _ rfl)).cons (hf.get 56 _ rfl)).cons (hf.get 7 _ rfl)).cons (hf.get 5 _ rfl)).cons (hf.get 0 _ rfl)), hs⟩
   ·replace h := h.2 hc
    refine H.k hf hs 7 rfl rfl (by kernel_rfl) fun a hf => ?_
    refine H.k hf hs 8 rfl rfl (by kernel_rfl) fun a hf => ?_
    refine H.k hf hs 9 rfl rfl (by kernel_rfl) fun a hf => ?_
    refine H.k hf hs 10 rfl rfl (by kernel_rfl) fun a hf => ?_
    refine H.k hf hs 11 rfl rfl (by kernel_rfl) fun a hf => ?_
    refine H.k hf hs 12 rfl rfl (by kernel_rfl) fun a hf => ?_
    refine H.one (i := 13) rfl (by kernel_rfl) ?_
    refine S.k hf rfl fun a hf => ?_
    refine R.nil (X.then_ ?_)
    refine ⟨hs, ?_⟩
    refine H.k hf hs 14 rfl rfl (by kernel_rfl) fun a hf => ?_
    refine H.k hf hs 15 rfl rfl (by kernel_rfl) fun a hf => ?_
    refine H.k hf hs 16 rfl rfl (by kernel_rfl) fun a hf => ?_
    refine H.v hf hs (.bool false) 17 rfl rfl (by kernel_rfl) (V.pure rfl) fun a hf => ?_
    refine H.done (by kernel_rfl) ?_
    refine X.then_ ?_
    exact ⟨false, h, (((((((hf.nil.cons (hf.get 79 _ rfl)).cons (hf.get 58 _ rfl)).cons (hf.get 57 _ rfl)).cons (hf.get 56 _ rfl)).cons (hf.get 7 _ rfl)).cons (hf.get 5 _ rfl)).cons (hf.get 0 _ rfl)), hs⟩
set_option linter.unusedVariables false
def M_worth_less (a_ : R7Worth) (b : R7Worth) (Q : Bool → Prop) : Prop :=
  cnd (b.cells == 0) (Q true) (cnd (decide (a_.cost < b.cost)) (Q true) (cnd (a_.cost == b.cost) (Q (decide (a_.cells < b.cells))) (Q false)))
set_option maxHeartbeats 1000000 in
theorem R_worth_less (a_ : R7Worth) (b : R7Worth) (w0 : World)  (Q : Bool → Prop) (h : M_worth_less a_ b Q) :
  Ret Try.prog 94 #[.agg #[iv a_.cost, iv a_.cells], .agg #[iv b.cost, iv b.cells]] w0 fun v w' => ∃ (r0 : Bool), v = .bool r0 ∧ Q r0 ∧ Sat w0 none_ [] w' := by
 refine fn_enter Try.func94 rfl Try.ntmps94 rfl (fs := [(0, .agg #[iv a_.cost, iv a_.cells]), (1, .agg #[iv b.cost, iv b.cells])]) rfl (fun a hf => ?_)
 have hs := Sat.start w0 none_
 unfold M_worth_less at h
 refine wp_seq (R.list ?_)
 refine S.box hf hs rfl rfl rfl [iv a_.cost, iv a_.cells] rfl rfl rfl (fun g1 a w hf hs => ?_)
 refine S.box hf hs rfl rfl rfl [iv b.cost, iv b.cells] rfl rfl rfl (fun g2 a w hf hs => ?_)
 refine S.p hf hs (.bool false) rfl rfl fun a hf => ?_
 refine R.nil (X.then_ (wp_seq (R.list ?_)))
 refine S.v hf hs ((pn g2 1)) rfl (V.fieldBox rfl rfl Try.runUnderlying60 rfl Try.sizeOf3 rfl rfl) fun a hf => ?_
 refine S.v hf hs (iv b.cells) rfl (V.loadBox 0 rfl rfl rfl Try.isAgg3 Try.sizeOf3 rfl rfl) fun a hf => ?_
 refine S.p hf hs (.bool (b.cells == 0)) rfl rfl fun a hf => ?_
 refine S.split hf hs (b := b.cells == 0) rfl rfl rfl (V.pure rfl) (fun hc a hf => ?_) (fun hc a hf => ?_)
 ·replace h := h.1 hc
  refine S.k hf rfl fun a hf => ?_
  refine S.k hf rfl fun a hf => ?_
  refine S.k hf rfl fun a hf => ?_
  refine S.k hf rfl fun a hf => ?_
  refine S.k hf rfl fun a hf => ?_
  refine S.p hf hs (.bool true) rfl rfl fun a hf => ?_
  refine S.p hf hs (.bool true) rfl rfl fun a hf => ?_
  refine S.k hf rfl fun a hf => ?_
  refine S.k hf rfl fun a hf => ?_
  refine S.k hf rfl fun a hf => ?_
  refine S.k hf rfl fun a hf => ?_
  refine S.k hf rfl fun a hf => ?_
  refine S.k hf rfl fun a hf => ?_
  refine S.k hf rfl fun a hf => ?_
  refine S.k hf rfl fun a hf => ?_
  refine S.k hf rfl fun a hf => ?_
  refine S.k hf rfl fun a hf => ?_
  refine S.k hf rfl fun a hf => ?_
  refine S.k hf rfl fun a hf => ?_
  refine S.p hf hs (.bool true) rfl rfl fun a hf => ?_
  refine S.p hf hs (.bool true) rfl rfl fun a hf => ?_
  refine R.nil (X.then_ (wp_ret ?_))
  exact L.ret hf (run_results1 Try.results94 (ResIs.tmp hf rfl)) ⟨true, rfl, h, hs.nil⟩
 ·replace h := h.2 hc
  refine S.v hf hs ((pn g1 0)) rfl (V.fieldBox rfl rfl Try.runUnderlying60 rfl Try.sizeOf3 rfl rfl) fun a hf => ?_
  refine S.v hf hs (iv a_.cost) rfl (V.loadBox 1 rfl rfl rfl Try.isAgg3 Try.sizeOf3 rfl rfl) fun a hf => ?_
  refine S.v hf hs ((pn g2 0)) rfl (V.fieldBox rfl rfl Try.runUnderlying60 rfl Try.sizeOf3 rfl rfl) fun a hf => ?_
  refine S.v hf hs (iv b.cost) rfl (V.loadBox 0 rfl rfl rfl Try.isAgg3 Try.sizeOf3 rfl rfl) fun a hf => ?_
  refine S.p hf hs (.bool (decide (a_.cost < b.cost))) rfl rfl fun a hf => ?_
  refine S.p hf hs (.bool (decide (a_.cost < b.cost))) rfl rfl fun a hf => ?_
  refine S.split hf hs (b := decide (a_.cost < b.cost)) rfl rfl rfl (V.pure rfl) (fun hc a hf => ?_) (fun hc a hf => ?_)
  ·replace h := h.1 hc
   refine S.k hf rfl fun a hf => ?_
   refine S.k hf rfl fun a hf => ?_
   refine S.k hf rfl fun a hf => ?_
   refine S.k hf rfl fun a hf => ?_
   refine S.k hf rfl fun a hf => ?_
   refine S.k hf rfl fun a hf => ?_
   refine S.k hf rfl fun a hf => ?_
   refine S.k hf rfl fun a hf => ?_
   refine S.k hf rfl fun a hf => ?_
   refine S.k hf rfl fun a hf => ?_
   refine S.k hf rfl fun a hf => ?_
   refine S.k hf rfl fun a hf => ?_
   refine S.p hf hs (.bool true) rfl rfl fun a hf => ?_
   refine S.p hf hs (.bool true) rfl rfl fun a hf => ?_
   refine R.nil (X.then_ (wp_ret ?_))
   exact L.ret hf (run_results1 Try.results94 (ResIs.tmp hf rfl)) ⟨true, rfl, h, hs.nil⟩
  ·replace h := h.2 hc
   refine S.v hf hs ((pn g1 0)) rfl (V.fieldBox rfl rfl Try.runUnderlying60 rfl Try.sizeOf3 rfl rfl) fun a hf => ?_
   refine S.v hf hs (iv a_.cost) rfl (V.loadBox 1 rfl rfl rfl Try.isAgg3 Try.sizeOf3 rfl rfl) fun a hf => ?_
   refine S.v hf hs ((pn g2 0)) rfl (V.fieldBox rfl rfl Try.runUnderlying60 rfl Try.sizeOf3 rfl rfl) fun a hf => ?_
   refine S.v hf hs (iv b.cost) rfl (V.loadBox 0 rfl rfl rfl Try.isAgg3 Try.sizeOf3 rfl rfl) fun a hf => ?_
   refine S.p hf hs (.bool (a_.cost == b.cost)) rfl rfl fun a hf => ?_
   refine S.split hf hs (b := a_.cost == b.cost) rfl rfl rfl (V.pure rfl) (fun hc a hf => ?_) (fun hc a hf => ?_)
   ·replace h := h.1 hc
    refine S.v hf hs ((pn g1 1)) rfl (V.fieldBox rfl rfl Try.runUnderlying60 rfl Try.sizeOf3 rfl rfl) fun a hf => ?_
    refine S.v hf hs (iv a_.cells) rfl (V.loadBox 1 rfl rfl rfl Try.isAgg3 Try.sizeOf3 rfl rfl) fun a hf => ?_
    refine S.v hf hs ((pn g2 1)) rfl (V.fieldBox rfl rfl Try.runUnderlying60 rfl Try.sizeOf3 rfl rfl) fun a hf => ?_
    refine S.v hf hs (iv b.cells) rfl (V.loadBox 0 rfl rfl rfl Try.isAgg3 Try.sizeOf3 rfl rfl) fun a hf => ?_
    refine S.p hf hs (.bool (decide (a_.cells < b.cells))) rfl rfl fun a hf => ?_
    refine S.p hf hs (.bool (decide (a_.cells < b.cells))) rfl rfl fun a hf => ?_
    refine S.p hf hs (.bool (decide (a_.cells < b.cells))) rfl rfl fun a hf => ?_
    refine S.p hf hs (.bool (decide (a_.cells < b.cells))) rfl rfl fun a hf => ?_
    refine R.nil (X.then_ (wp_ret ?_))
    exact L.ret hf (run_results1 Try.results94 (ResIs.tmp hf rfl)) ⟨(decide (a_.cells < b.cells)), rfl, h, hs.nil⟩
   ·replace h := h.2 hc
    refine S.k hf rfl fun a hf => ?_
    refine S.k hf rfl fun a hf => ?_
    refine S.k hf rfl fun a hf => ?_
    refine S.k hf rfl fun a hf => ?_
    refine S.k hf rfl fun a hf => ?_
    refine S.p hf hs (.bool false) rfl rfl fun a hf => ?_
    refine S.p hf hs (.bool false) rfl rfl fun a hf => ?_
    refine S.p hf hs (.bool false) rfl rfl fun a hf => ?_
    refine R.nil (X.then_ (wp_ret ?_))
    exact L.ret hf (run_results1 Try.results94 (ResIs.tmp hf rfl)) ⟨false, rfl, h, hs.nil⟩
set_option linter.unusedVariables false
def M_heap7_push_k2 (Q : R7Heap → Prop) (l2 : List R7Entry) (n2 : Int) (again1 : List R7Entry → Int → Prop) (c1 : Bool) : Prop :=
  cnd c1 (idx l2 (w64 ((w64 (n2 - 1)).tdiv 2)) fun x1 => idx l2 n2 fun x2 => idx (l2.set n2.toNat x1) (w64 ((w64 (n2 - 1)).tdiv 2)) fun x3 => again1 ((l2.set n2.toNat x1).set ((w64 ((w64 (n2 - 1)).tdiv 2)).toNat) x2) (w64 ((w64 (n2 - 1)).tdiv 2))) (Q (⟨l2⟩ : R7Heap))
def M_heap7_push_L1 (Q : R7Heap → Prop) (again1 : List R7Entry → Int → Prop) (l2 : List R7Entry) (n2 : Int) : Prop :=
  cnd (decide (n2 > 0)) (idx l2 n2 fun x4 => idx l2 (w64 ((w64 (n2 - 1)).tdiv 2)) fun x5 => M_worth_less x4.worth x5.worth fun y1 => M_heap7_push_k2 Q l2 n2 again1 y1) (M_heap7_push_k2 Q l2 n2 again1 false)
def M_heap7_push (h_ : R7Heap) (e_ : R7Entry) (Q : R7Heap → Prop) : Prop :=
  must (room (h_.l ++ [e_]).length 24) (lp (fun again (s : List R7Entry × Int) => M_heap7_push_L1 Q (fun l2 n2 => again (l2, n2)) s.1 s.2) ((h_.l ++ [e_]), w64 (((h_.l ++ [e_]).length : Int) - 1)))
set_option maxHeartbeats 1000000 in
theorem R_heap7_push (h_ : R7Heap) (e_ : R7Entry) (w0 : World) (F0 : Nat → Prop) (h_g : Nat) (h__lA : Option Addr) (h__lC : Nat) (hs0 : Sat w0 F0 [hbox h_g 99 [.slice h__lA h_.l.length h__lC], hown 102 h__lA h__lC h_.l] w0) (Q : R7Heap → Prop) (h : M_heap7_push h_ e_ Q) :
  Ret Try.prog 72 #[(pn h_g 0), .agg #[iv e_.worth.cost, iv e_.worth.cells, iv e_.state]] w0 fun v w' => ∃ (h_1 : R7Heap) (h_1_lA : Option Addr) (h_1_lC : Nat), v = .tuple #[] ∧ Q h_1 ∧ Sat w0 F0 [hbox h_g 99 [.slice h_1_lA h_1.l.length h_1_lC], hown 102 h_1_lA h_1_lC h_1.l] w' := by
 refine fn_enter Try.func72 rfl Try.ntmps72 rfl (fs := [(0, (pn h_g 0)), (1, .agg #[iv e_.worth.cost, iv e_.worth.cells, iv e_.state])]) rfl (fun a hf => ?_)
 have hs := hs0
 unfold M_heap7_push at h
 refine wp_seq (R.list ?_)
 refine S.box hf hs rfl rfl rfl [iv e_.worth.cost, iv e_.worth.cells, iv e_.state] rfl rfl rfl (fun g1 a w hf hs => ?_)
 refine R.nil (X.then_ (wp_seq ?_))
 refine M.start 7 (Sat w0 F0 [hbox g1 102 [iv e_.worth.cost, iv e_.worth.cells, iv e_.state], hbox h_g 99 [.slice h__lA h_.l.length h__lC], hown 102 h__lA h__lC h_.l]) mo ?_
 replace hs := hs.drew
 refine M.valp hf hs (v := (pn h_g 0)) (i := 0) rfl rfl rfl rfl (by kernel_rfl) (by kernel_rfl) (by kernel_rfl) rfl (fun w1 => V.pure rfl) (fun a hf => ?_)
 refine M.valp hf hs (v := (pn h_g 0)) (i := 1) rfl rfl rfl rfl (by kernel_rfl) (by kernel_rfl) (by kernel_rfl) rfl (fun w1 => V.pure rfl) (fun a hf => ?_)
 refine M.valp hf hs (v := (pn h_g 0)) (i := 2) rfl rfl rfl rfl (by kernel_rfl) (by kernel_rfl) (by kernel_rfl) rfl (fun w1 => V.pure rfl) (fun a hf => ?_)
 refine M.valp hf hs (v := (pn h_g 0)) (i := 3) rfl rfl rfl rfl (by kernel_rfl) (by kernel_rfl) (by kernel_rfl) rfl (fun w1 => V.fieldBox rfl rfl Try.runUnderlying99 rfl Try.sizeOf97 rfl rfl) (fun a hf => ?_)
 refine M.v hf hs (.slice h__lA h_.l.length h__lC) 4 rfl rfl (by kernel_rfl) (V.loadBox 1 rfl rfl rfl Try.isAgg97 Try.sizeOf97 rfl rfl) fun a hf => ?_
 refine M.one (i := 5) rfl (by kernel_rfl) ?_
 refine S.v hf hs (.agg #[iv e_.worth.cost, iv e_.worth.cells, iv e_.state]) rfl (V.loadBox 0 rfl rfl rfl Try.isAgg102 Try.sizeOf102 rfl rfl) fun a hf => ?_
 refine R.nil (X.then_ ?_)
 refine ⟨hs, ?_⟩
 refine M.one (i := 6) rfl (by kernel_rfl) ?_
 refine S.build1 hf hs rfl rfl rfl (α := R7Entry) e_ rfl rfl rfl Try.runUnderlying97 Try.sizeOf102 Try.zeroValue102 rfl (by decide) (fun A1 a w hf hs => ?_)
 refine R.nil (X.then_ ?_)
 refine ⟨(hs.mask [false, true, true, true]), ?_⟩
 refine M.last (i := 7) rfl (by kernel_rfl) (by kernel_rfl) ?_
 obtain ⟨hroom, h⟩ := h
 refine S.appendCells 3 hf hs rfl rfl rfl rfl rfl rfl rfl Try.underlying97 info102 rfl hroom ((hs.ownView 0 rfl).some_ (i := 0) (by simp)) (hs.ownView 0 rfl) (fun A2 C1 a w hf hs => ?_)
 replace hs := hs.drop
 refine R.nil (X.then_ ?_)
 refine M.last (i := 8) rfl (by kernel_rfl) (by kernel_rfl) ?_
 refine S.p hf hs ((pn h_g 0)) rfl rfl fun a hf => ?_
 refine R.nil (X.then_ ?_)
 refine M.last (i := 9) rfl (by kernel_rfl) (by kernel_rfl) ?_
 refine S.v hf hs ((pn h_g 0)) rfl (V.fieldBox rfl rfl Try.runUnderlying99 rfl Try.sizeOf97 rfl rfl) fun a hf => ?_
 refine R.nil (X.then_ ?_)
 refine M.last (i := 10) rfl (by kernel_rfl) (by kernel_rfl) ?_
 refine S.storeBox 1 hf hs rfl rfl [.slice A2 (h_.l ++ [e_]).length C1] [.slice A2 (h_.l ++ [e_]).length C1] rfl rfl rfl rfl rfl Try.sizeOf97 rfl rfl rfl rfl (fun a w hf hs => ?_)
 refine R.nil (X.then_ ?_)
 refine M.done (by kernel_rfl) ?_
 refine X.then_ (wp_seq (R.list ?_))
 refine S.p hf hs ((pn h_g 0)) rfl rfl fun a hf => ?_
 refine S.p hf hs ((pn h_g 0)) rfl rfl fun a hf => ?_
 refine S.v hf hs ((pn h_g 0)) rfl (V.fieldBox rfl rfl Try.runUnderlying99 rfl Try.sizeOf97 rfl rfl) fun a hf => ?_
 refine S.v hf hs (.slice A2 (h_.l ++ [e_]).length C1) rfl (V.loadBox 1 rfl rfl rfl Try.isAgg97 Try.sizeOf97 rfl rfl) fun a hf => ?_
 refine S.v hf hs (iv ((h_.l ++ [e_]).length : Int)) rfl (V.len rfl rfl Try.runUnderlying97) fun a hf => ?_
 refine S.p hf hs (iv (w64 (((h_.l ++ [e_]).length : Int) - 1))) rfl rfl fun a hf => ?_
 refine S.p hf hs (iv (w64 (((h_.l ++ [e_]).length : Int) - 1))) rfl rfl fun a hf => ?_
 refine R.nil (X.then_ (wp_block ?_))
 obtain ⟨kk, h⟩ := h
 refine C.loop (fun kk a w => ∃ (l2 : List R7Entry) (l2A : Option Addr) (l2C : Nat) (n2 : Int), iterF (fun again (s : List R7Entry × Int) => M_heap7_push_L1 Q (fun l2 n2 => again (l2, n2)) s.1 s.2) kk (l2, n2) ∧ FrOk 77 [(0, (pn h_g 0)), (4, iv n2)] a ∧ Sat w0 F0 [hbox g1 102 [iv e_.worth.cost, iv e_.worth.cells, iv e_.state], hbox h_g 99 [.slice l2A l2.length l2C], hown 102 l2A l2C l2] w) kk ⟨(h_.l ++ [e_]), A2, C1, (w64 (((h_.l ++ [e_]).length : Int) - 1)), h, ((hf.nil.cons (hf.get 4 _ rfl)).cons (hf.get 0 _ rfl)), hs⟩ (fun a w ⟨_, _, _, _, h, _, _⟩ => h) ?_
 clear h hf hs
 rintro kk a w ⟨l2, l2A, l2C, n2, h, hf, hs⟩
 obtain ⟨again1, hagain1⟩ : ∃ X : List R7Entry → Int → Prop, X = (fun l2 n2 => iterF (fun again (s : List R7Entry × Int) => M_heap7_push_L1 Q (fun l2 n2 => again (l2, n2)) s.1 s.2) kk (l2, n2)) := ⟨_, rfl⟩
 replace h : M_heap7_push_L1 Q again1 l2 n2 := by rw [hagain1]; exact h
 unfold M_heap7_push_L1 at h
 refine wp_seq (wp_seq ?_)
 refine C.cut (J := fun a w => ∃ (c1 : Bool), M_heap7_push_k2 Q l2 n2 again1 c1 ∧ FrOk 77 [(0, (pn h_g 0)), (4, iv n2), (43, .bool c1)] a ∧ Sat w0 F0 [hbox g1 102 [iv e_.worth.cost, iv e_.worth.cells, iv e_.state], hbox h_g 99 [.slice l2A l2.length l2C], hown 102 l2A l2C l2] w) ?_ ?_
 ·rintro a w ⟨c1, h, hf, hs⟩
  unfold M_heap7_push_k2 at h
  refine C.cond hf (b := c1) rfl (fun hc => ?_) (fun hc => ?_)
  ·replace h := h.1 hc
   refine wp_skip (X.then_ (wp_seq (wp_block ?_)))
   refine M.start 29 (Sat w0 F0 [hbox g1 102 [iv e_.worth.cost, iv e_.worth.cells, iv e_.state], hbox h_g 99 [.slice l2A l2.length l2C], hown 102 l2A l2C l2]) mo ?_
   replace hs := hs.drew
   refine M.v hf hs ((pn h_g 0)) 0 rfl rfl (by kernel_rfl) (V.pure rfl) fun a hf => ?_
   refine M.v hf hs ((pn h_g 0)) 1 rfl rfl (by kernel_rfl) (V.pure rfl) fun a hf => ?_
   refine M.v hf hs ((pn h_g 0)) 2 rfl rfl (by kernel_rfl) (V.fieldBox rfl rfl Try.runUnderlying99 rfl Try.sizeOf97 rfl rfl) fun a hf => ?_
   refine M.v hf hs (.slice l2A l2.length l2C) 3 rfl rfl (by kernel_rfl) (V.loadBox 1 rfl rfl rfl Try.isAgg97 Try.sizeOf97 rfl rfl) fun a hf => ?_
   refine M.v hf hs (iv n2) 4 rfl rfl (by kernel_rfl) (V.pure rfl) fun a hf => ?_
   refine M.valp hf hs (v := (pn h_g 0)) (i := 5) rfl rfl rfl rfl (by kernel_rfl) (by kernel_rfl) (by kernel_rfl) rfl (fun w1 => V.pure rfl) (fun a hf => ?_)
   refine M.valp hf hs (v := (pn h_g 0)) (i := 6) rfl rfl rfl rfl (by kernel_rfl) (by kernel_rfl) (by kernel_rfl) rfl (fun w1 => V.pure rfl) (fun a hf => ?_)
   refine M.valp hf hs (v := (pn h_g 0)) (i := 7) rfl rfl rfl rfl (by kernel_rfl) (by kernel_rfl) (by kernel_rfl) rfl (fun w1 => V.fieldBox rfl rfl Try.runUnderlying99 rfl Try.sizeOf97 rfl rfl) (fun a hf => ?_)
   refine M.v hf hs (.slice l2A l2.length l2C) 8 rfl rfl (by kernel_rfl) (V.loadBox 1 rfl rfl rfl Try.isAgg97 Try.sizeOf97 rfl rfl) fun a hf => ?_
   refine M.valp hf hs (v := iv n2) (i := 9) rfl rfl rfl rfl (by kernel_rfl) (by kernel_rfl) (by kernel_rfl) rfl (fun w1 => V.pure rfl) (fun a hf => ?_)
   refine M.valp hf hs (v := iv (w64 (n2 - 1))) (i := 10) rfl rfl rfl rfl (by kernel_rfl) (by kernel_rfl) (by kernel_rfl) rfl (fun w1 => V.pure rfl) (fun a hf => ?_)
   refine M.valp hf hs (v := iv (w64 ((w64 (n2 - 1)).tdiv 2))) (i := 11) rfl rfl rfl rfl (by kernel_rfl) (by kernel_rfl) (by kernel_rfl) rfl (fun w1 => V.quo rfl rfl rfl (by decide)) (fun a hf => ?_)
   refine M.v hf hs ((pn h_g 0)) 12 rfl rfl (by kernel_rfl) (V.pure rfl) fun a hf => ?_
   refine M.v hf hs ((pn h_g 0)) 13 rfl rfl (by kernel_rfl) (V.pure rfl) fun a hf => ?_
   refine M.v hf hs ((pn h_g 0)) 14 rfl rfl (by kernel_rfl) (V.fieldBox rfl rfl Try.runUnderlying99 rfl Try.sizeOf97 rfl rfl) fun a hf => ?_
   refine M.v hf hs (.slice l2A l2.length l2C) 15 rfl rfl (by kernel_rfl) (V.loadBox 1 rfl rfl rfl Try.isAgg97 Try.sizeOf97 rfl rfl) fun a hf => ?_
   refine M.v hf hs (iv n2) 16 rfl rfl (by kernel_rfl) (V.pure rfl) fun a hf => ?_
   refine M.v hf hs (iv (w64 (n2 - 1))) 17 rfl rfl (by kernel_rfl) (V.pure rfl) fun a hf => ?_
   refine M.v hf hs (iv (w64 ((w64 (n2 - 1)).tdiv 2))) 18 rfl rfl (by kernel_rfl) (V.quo rfl rfl rfl (by decide)) fun a hf => ?_
   obtain ⟨h0x1, x1, hx1, h⟩ := h
   refine M.v hf hs (elemPtr l2A ((w64 ((w64 (n2 - 1)).tdiv 2)).toNat * 3)) 19 rfl rfl (by kernel_rfl) (V.index rfl rfl rfl Try.runUnderlying97 Try.sizeOf102 (hs.ownSome 2 rfl (lt_of_get hx1)) h0x1 (lt_of_get hx1) rfl) fun a hf => ?_
   refine M.v hf hs (.agg #[iv x1.worth.cost, iv x1.worth.cells, iv x1.state]) 20 rfl rfl (by kernel_rfl) (V.loadOwn (off := 0) 2 rfl hx1 rfl rfl rfl Try.isAgg102 Try.sizeOf102 rfl rfl) fun a hf => ?_
   refine M.valp hf hs (v := (pn h_g 0)) (i := 21) rfl rfl rfl rfl (by kernel_rfl) (by kernel_rfl) (by kernel_rfl) rfl (fun w1 => V.pure rfl) (fun a hf => ?_)
   refine M.valp hf hs (v := (pn h_g 0)) (i := 22) rfl rfl rfl rfl (by kernel_rfl) (by kernel_rfl) (by kernel_rfl) rfl (fun w1 => V.pure rfl) (fun a hf => ?_)
   refine M.valp hf hs (v := (pn h_g 0)) (i := 23) rfl rfl rfl rfl (by kernel_rfl) (by kernel_rfl) (by kernel_rfl) rfl (fun w1 => V.fieldBox rfl rfl Try.runUnderlying99 rfl Try.sizeOf97 rfl rfl) (fun a hf => ?_)
   refine M.v hf hs (.slice l2A l2.length l2C) 24 rfl rfl (by kernel_rfl) (V.loadBox 1 rfl rfl rfl Try.isAgg97 Try.sizeOf97 rfl rfl) fun a hf => ?_
   refine M.valp hf hs (v := iv n2) (i := 25) rfl rfl rfl rfl (by kernel_rfl) (by kernel_rfl) (by kernel_rfl) rfl (fun w1 => V.pure rfl) (fun a hf => ?_)
   obtain ⟨h0x2, x2, hx2, h⟩ := h
   refine M.valp hf hs (v := elemPtr l2A (n2.toNat * 3)) (i := 26) rfl rfl rfl rfl (by kernel_rfl) (by kernel_rfl) (by kernel_rfl) rfl (fun w1 => V.index rfl rfl rfl Try.runUnderlying97 Try.sizeOf102 (hs.ownSome 2 rfl (lt_of_get hx2)) h0x2 (lt_of_get hx2) rfl) (fun a hf => ?_)
   refine M.v hf hs (.agg #[iv x2.worth.cost, iv x2.worth.cells, iv x2.state]) 27 rfl rfl (by kernel_rfl) (V.loadOwn (off := 0) 2 rfl hx2 rfl rfl rfl Try.isAgg102 Try.sizeOf102 rfl rfl) fun a hf => ?_
   refine M.v hf hs (elemPtr l2A (n2.toNat * 3)) 28 rfl rfl (by kernel_rfl) (V.index rfl rfl rfl Try.runUnderlying97 Try.sizeOf102 (hs.ownSome 2 rfl (lt_of_get hx2)) h0x2 (lt_of_get hx2) rfl) fun a hf => ?_
   refine M.last (i := 29) rfl (by kernel_rfl) (by kernel_rfl) ?_
   refine S.storeOwn (off := 0) 2 hf hs rfl rfl x1 [iv x1.worth.cost, iv x1.worth.cells, iv x1.state] rfl hx2 rfl rfl rfl rfl rfl Try.sizeOf102 rfl (by decide) rfl rfl (fun a w hf hs => ?_)
   replace hs := hs.rebox 1 (vs' := [.slice l2A (l2.set n2.toNat x1).length l2C]) rfl (congrArg (fun n => [Value.slice l2A n l2C]) List.length_set.symm)
   replace hf := hf.tell 50 (v := .slice l2A (l2.set n2.toNat x1).length l2C) ((hf.get 50 (.slice l2A l2.length l2C) rfl).trans (congrArg (fun n => Value.slice l2A n l2C) List.length_set.symm))
   replace hf := hf.tell 55 (v := .slice l2A (l2.set n2.toNat x1).length l2C) ((hf.get 55 (.slice l2A l2.length l2C) rfl).trans (congrArg (fun n => Value.slice l2A n l2C) List.length_set.symm))
   replace hf := hf.tell 62 (v := .slice l2A (l2.set n2.toNat x1).length l2C) ((hf.get 62 (.slice l2A l2.length l2C) rfl).trans (congrArg (fun n => Value.slice l2A n l2C) List.length_set.symm))
   replace hf := hf.tell 71 (v := .slice l2A (l2.set n2.toNat x1).length l2C) ((hf.get 71 (.slice l2A l2.length l2C) rfl).trans (congrArg (fun n => Value.slice l2A n l2C) List.length_set.symm))
   refine R.nil (X.then_ ?_)
   refine M.last (i := 30) rfl (by kernel_rfl) (by kernel_rfl) ?_
   obtain ⟨h0x3, x3, hx3, h⟩ := h
   refine S.v hf hs (elemPtr l2A ((w64 ((w64 (n2 - 1)).tdiv 2)).toNat * 3)) rfl (V.index rfl rfl rfl Try.runUnderlying97 Try.sizeOf102 (hs.ownSome 2 rfl (lt_of_get hx3)) h0x3 (lt_of_get hx3) rfl) fun a hf => ?_
   refine R.nil (X.then_ ?_)
   refine M.last (i := 31) rfl (by kernel_rfl) (by kernel_rfl) ?_
   refine S.storeOwn (off := 0) 2 hf hs rfl rfl x2 [iv x2.worth.cost, iv x2.worth.cells, iv x2.state] rfl hx3 rfl rfl rfl rfl rfl Try.sizeOf102 rfl (by decide) rfl rfl (fun a w hf hs => ?_)
   replace hs := hs.rebox 1 (vs' := [.slice l2A ((l2.set n2.toNat x1).set ((w64 ((w64 (n2 - 1)).tdiv 2)).toNat) x2).length l2C]) rfl (congrArg (fun n => [Value.slice l2A n l2C]) List.length_set.symm)
   replace hf := hf.tell 50 (v := .slice l2A ((l2.set n2.toNat x1).set ((w64 ((w64 (n2 - 1)).tdiv 2)).toNat) x2).length l2C) ((hf.get 50 (.slice l2A (l2.set n2.toNat x1).length l2C) rfl).trans (congrArg (fun n => Value.slice l2A n l2C) List.length_set.symm))
   replace hf := hf.tell 55 (v := .slice l2A ((l2.set n2.toNat x1).set ((w64 ((w64 (n2 - 1)).tdiv 2)).toNat) x2).length l2C) ((hf.get 55 (.slice l2A (l2.set n2.toNat x1).length l2C) rfl).trans (congrArg (fun n => Value.slice l2A n l2C) List.length_set.symm))
   replace hf := hf.tell 62 (v := .slice l2A ((l2.set n2.toNat x1).set ((w64 ((w64 (n2 - 1)).tdiv 2)).toNat) x2).length l2C) ((hf.get 62 (.slice l2A (l2.set n2.toNat x1).length l2C) rfl).trans (congrArg (fun n => Value.slice l2A n l2C) List.length_set.symm))
   replace hf := hf.tell 71 (v := .slice l2A ((l2.set n2.toNat x1).set ((w64 ((w64 (n2 - 1)).tdiv 2)).toNat) x2).length l2C) ((hf.get 71 (.slice l2A (l2.set n2.toNat x1).length l2C) rfl).trans (congrArg (fun n => Value.slice l2A n l2C) List.length_set.symm))
   refine R.nil (X.then_ ?_)
   refine M.done (by kernel_rfl) ?_
   refine X.blk (X.then_ (R.list ?_))
   refine S.p hf hs (iv n2) rfl rfl fun a hf => ?_
   refine S.p hf hs (iv (w64 (n2 - 1))) rfl rfl fun a hf => ?_
   refine S.v hf hs (iv (w64 ((w64 (n2 - 1)).tdiv 2))) rfl (V.quo rfl rfl rfl (by decide)) fun a hf => ?_
   refine S.p hf hs (iv (w64 ((w64 (n2 - 1)).tdiv 2))) rfl rfl fun a hf => ?_
   refine R.nil (X.then_ ?_)
   exact ⟨((l2.set n2.toNat x1).set ((w64 ((w64 (n2 - 1)).tdiv 2)).toNat) x2), l2A, l2C, (w64 ((w64 (n2 - 1)).tdiv 2)), (by rw [hagain1] at h; exact h), ((hf.nil.cons (hf.get 4 _ rfl)).cons (hf.get 0 _ rfl)), hs⟩
  ·replace h := h.2 hc
   refine wp_exit (X.then_exit (X.then_exit (X.blk_exit ?_)))
   replace hs := hs.front 2 rfl
   replace hs := hs.front 2 rfl
   replace hs := hs.take 2
   exact L.end0 Try.results72 hf ⟨(⟨l2⟩ : R7Heap), l2A, l2C, rfl, h, hs⟩
 ·skip
  refine H.start (S := Sat w0 F0 [hbox g1 102 [iv e_.worth.cost, iv e_.worth.cells, iv e_.state], hbox h_g 99 [.slice l2A l2.length l2C], hown 102 l2A l2C l2]) mo ?_
  replace hs := hs.drew
  refine H.v hf hs (iv n2) 0 rfl rfl (by kernel_rfl) (V.pure rfl) fun a hf => ?_
  refine H.v hf hs (.bool (decide (n2 > 0))) 1 rfl rfl (by kernel_rfl) (V.pure rfl) fun a hf => ?_
  refine H.split hf hs (b := decide (n2 > 0)) (i := 2) rfl rfl rfl rfl (by kernel_rfl) (by kernel_rfl) (by kernel_rfl) (V.pure rfl) (fun hc a hf => ?_) (fun hc a hf => ?_)
  ·replace h := h.1 hc
   refine H.v hf hs ((pn h_g 0)) 3 rfl rfl (by kernel_rfl) (V.pure rfl) fun a hf => ?_
   refine H.v hf hs ((pn h_g 0)) 4 rfl rfl (by kernel_rfl) (V.pure rfl) fun a hf => ?_
   refine H.v hf hs ((pn h_g 0)) 5 rfl rfl (by kernel_rfl) (V.fieldBox rfl rfl Try.runUnderlying99 rfl Try.sizeOf97 rfl rfl) fun a hf => ?_
   refine H.v hf hs (.slice l2A l2.length l2C) 6 rfl rfl (by kernel_rfl) (V.loadBox 1 rfl rfl rfl Try.isAgg97 Try.sizeOf97 rfl rfl) fun a hf => ?_
   refine H.v hf hs (iv n2) 7 rfl rfl (by kernel_rfl) (V.pure rfl) fun a hf => ?_
   obtain ⟨h0x4, x4, hx4, h⟩ := h
   refine H.v hf hs (elemPtr l2A (n2.toNat * 3)) 8 rfl rfl (by kernel_rfl) (V.index rfl rfl rfl Try.runUnderlying97 Try.sizeOf102 (hs.ownSome 2 rfl (lt_of_get hx4)) h0x4 (lt_of_get hx4) rfl) fun a hf => ?_
   refine H.v hf hs (elemPtr l2A (n2.toNat * 3)) 9 rfl rfl (by kernel_rfl) (V.fieldEl rfl rfl (hs.ownSome 2 rfl (lt_of_get hx4)) Try.runUnderlying102 rfl Try.sizeOf60 rfl rfl) fun a hf => ?_
   refine H.v hf hs (.agg #[iv x4.worth.cost, iv x4.worth.cells]) 10 rfl rfl (by kernel_rfl) (V.loadOwn (off := 0) 2 rfl hx4 rfl rfl rfl Try.isAgg60 Try.sizeOf60 rfl rfl) fun a hf => ?_
   refine H.v hf hs ((pn h_g 0)) 11 rfl rfl (by kernel_rfl) (V.pure rfl) fun a hf => ?_
   refine H.v hf hs ((pn h_g 0)) 12 rfl rfl (by kernel_rfl) (V.pure rfl) fun a hf => ?_
   refine H.v hf hs ((pn h_g 0)) 13 rfl rfl (by kernel_rfl) (V.fieldBox rfl rfl Try.runUnderlying99 rfl Try.sizeOf97 rfl rfl) fun a hf => ?_
   refine H.v hf hs (.slice l2A l2.length l2C) 14 rfl rfl (by kernel_rfl) (V.loadBox 1 rfl rfl rfl Try.isAgg97 Try.sizeOf97 rfl rfl) fun a hf => ?_
   refine H.v hf hs (iv n2) 15 rfl rfl (by kernel_rfl) (V.pure rfl) fun a hf => ?_
   refine H.v hf hs (iv (w64 (n2 - 1))) 16 rfl rfl (by kernel_rfl) (V.pure rfl) fun a hf => ?_
   refine H.v hf hs (iv (w64 ((w64 (n2 - 1)).tdiv 2))) 17 rfl rfl (by kernel_rfl) (V.quo rfl rfl rfl (by decide)) fun a hf => ?_
   obtain ⟨h0x5, x5, hx5, h⟩ := h
   refine H.v hf hs (elemPtr l2A ((w64 ((w64 (n2 - 1)).tdiv 2)).toNat * 3)) 18 rfl rfl (by kernel_rfl) (V.index rfl rfl rfl Try.runUnderlying97 Try.sizeOf102 (hs.ownSome 2 rfl (lt_of_get hx5)) h0x5 (lt_of_get hx5) rfl) fun a hf => ?_
   refine H.v hf hs (elemPtr l2A ((w64 ((w64 (n2 - 1)).tdiv 2)).toNat * 3)) 19 rfl rfl (by kernel_rfl) (V.fieldEl rfl rfl (hs.ownSome 2 rfl (lt_of_get hx5)) Try.runUnderlying102 rfl Try.sizeOf60 rfl rfl) fun a hf => ?_
   refine H.v hf hs (.agg #[iv x5.worth.cost, iv x5.worth.cells]) 20 rfl rfl (by kernel_rfl) (V.loadOwn (off := 0) 2 rfl hx5 rfl rfl rfl Try.isAgg60 Try.sizeOf60 rfl rfl) fun a hf => ?_
   refine H.one (i := 21) rfl (by kernel_rfl) ?_
   refine S.call hf rfl rfl rfl (call_fn (vs := [.agg #[iv x4.worth.cost, iv x4.worth.cells], .agg #[iv x5.worth.cost, iv x5.worth.cells]]) rfl rfl rfl Try.call94) (R_worth_less x4.worth x5.worth _  _ h) (fun v a w' hf hr => ?_)
   obtain ⟨y1, rfl, h2, hs2⟩ := hr
   replace h := h2; replace hs := hs.call hs2; clear h2 hs2
   refine R.nil (X.then_ ?_)
   refine ⟨hs, ?_⟩
   refine H.v hf hs (.bool y1) 22 rfl rfl (by kernel_rfl) (V.pure rfl) fun a hf => ?_
   refine H.done (by kernel_rfl) ?_
   refine X.then_ ?_
   exact ⟨y1, h, (((hf.nil.cons (hf.get 43 _ rfl)).cons (hf.get 4 _ rfl)).cons (hf.get 0 _ rfl)), hs⟩
  ·replace h := h.2 hc
   refine H.k hf hs 3 rfl rfl (by kernel_rfl) fun a hf => ?_
   refine H.k hf hs 4 rfl rfl (by kernel_rfl) fun a hf => ?_
   refine H.k hf hs 5 rfl rfl (by kernel_rfl) fun a hf => ?_
   refine H.k hf hs 6 rfl rfl (by kernel_rfl) fun a hf => ?_
   refine H.k hf hs 7 rfl rfl (by kernel_rfl) fun a hf => ?_
   refine H.k hf hs 8 rfl rfl (by kernel_rfl) fun a hf => ?_
   refine H.k hf hs 9 rfl rfl (by kernel_rfl) fun a hf => ?_
   refine H.k hf hs 10 rfl rfl (by kernel_rfl) fun a hf => ?_
   refine H.k hf hs 11 rfl rfl (by kernel_rfl) fun a hf => ?_
   refine H.k hf hs 12 rfl rfl (by kernel_rfl) fun a hf => ?_
   refine H.k hf hs 13 rfl rfl (by kernel_rfl) fun a hf => ?_
   refine H.k hf hs 14 rfl rfl (by kernel_rfl) fun a hf => ?_
   refine H.k hf hs 15 rfl rfl (by kernel_rfl) fun a hf => ?_
   refine H.k hf hs 16 rfl rfl (by kernel_rfl) fun a hf => ?_
   refine H.k hf hs 17 rfl rfl (by kernel_rfl) fun a hf => ?_
   refine H.k hf hs 18 rfl rfl (by kernel_rfl) fun a hf => ?_
   refine H.k hf hs 19 rfl rfl (by kernel_rfl) fun a hf => ?_
   refine H.k hf hs 20 rfl rfl (by kernel_rfl) fun a hf => ?_
   refine H.one (i := 21) rfl (by kernel_rfl) ?_
   refine S.k hf rfl fun a hf => ?_
   refine R.nil (X.then_ ?_)
   refine ⟨hs, ?_⟩
   refine H.v hf hs (.bool false) 22 rfl rfl (by kernel_rfl) (V.pure rfl) fun a hf => ?_
   refine H.done (by kernel_rfl) ?_
   refine X.then_ ?_
   exact ⟨false, h, (((hf.nil.cons (hf.get 43 _ rfl)).cons (hf.get 4 _ rfl)).cons (hf.get 0 _ rfl)), hs⟩
set_option linter.unusedVariables false
def M_heap7_pop_k1 (Q : R7Entry → R7Heap → Prop) (x1 : R7Entry) (l1 : List R7Entry) : Prop :=
  Q x1 (⟨l1⟩ : R7Heap)
def M_heap7_pop_k3 (Q : R7Entry → R7Heap → Prop) (x1 : R7Entry) (l3 : List R7Entry) (n2 : Int) (again1 : List R7Entry → Int → Prop) (n3 : Int) : Prop :=
  idx l3 n3 fun x3 => idx l3 n2 fun x4 => M_worth_less x3.worth x4.worth fun y1 => cnd (!y1) (M_heap7_pop_k1 Q x1 l3) (idx (l3.set n2.toNat x3) n3 fun x5 => again1 ((l3.set n2.toNat x3).set n3.toNat x4) n3)
def M_heap7_pop_k4 (Q : R7Entry → R7Heap → Prop) (x1 : R7Entry) (l3 : List R7Entry) (n2 : Int) (again1 : List R7Entry → Int → Prop) (c1 : Bool) : Prop :=
  cnd c1 (M_heap7_pop_k3 Q x1 l3 n2 again1 (w64 ((w64 ((w64 (2 * n2)) + 1)) + 1))) (M_heap7_pop_k3 Q x1 l3 n2 again1 (w64 ((w64 (2 * n2)) + 1)))
def M_heap7_pop_L1 (h_ : R7Heap) (Q : R7Entry → R7Heap → Prop) (x1 : R7Entry) (again1 : List R7Entry → Int → Prop) (l3 : List R7Entry) (n2 : Int) : Prop :=
  cnd (decide (w64 ((w64 (2 * n2)) + 1) < w64 ((h_.l.length : Int) - 1))) (cnd (decide (w64 ((w64 ((w64 (2 * n2)) + 1)) + 1) < w64 ((h_.l.length : Int) - 1))) (idx l3 (w64 ((w64 ((w64 (2 * n2)) + 1)) + 1)) fun x6 => idx l3 (w64 ((w64 (2 * n2)) + 1)) fun x7 => M_worth_less x6.worth x7.worth fun y2 => M_heap7_pop_k4 Q x1 l3 n2 again1 y2) (M_heap7_pop_k4 Q x1 l3 n2 again1 false)) (M_heap7_pop_k1 Q x1 l3)
def M_heap7_pop (h_ : R7Heap) (Q : R7Entry → R7Heap → Prop) : Prop :=
  idx h_.l 0 fun x1 => idx h_.l (w64 ((h_.l.length : Int) - 1)) fun x2 => must (0 ≤ w64 ((h_.l.length : Int) - 1) ∧ w64 ((h_.l.length : Int) - 1) ≤ ((h_.l.set 0 x2).length : Int)) (lp (fun again (s : List R7Entry × Int) => M_heap7_pop_L1 h_ Q x1 (fun l3 n2 => again (l3, n2)) s.1 s.2) (((h_.l.set 0 x2).take (w64 ((h_.l.length : Int) - 1)).toNat), 0))
set_option maxHeartbeats 1000000 in
theorem R_heap7_pop (h_ : R7Heap) (w0 : World) (F0 : Nat → Prop) (h_g : Nat) (h__lA : Option Addr) (h__lC : Nat) (hs0 : Sat w0 F0 [hbox h_g 99 [.slice h__lA h_.l.length h__lC], hown 102 h__lA h__lC h_.l] w0) (Q : R7Entry → R7Heap → Prop) (h : M_heap7_pop h_ Q) :
  Ret Try.prog 73 #[(pn h_g 0)] w0 fun v w' => ∃ (r0 : R7Entry) (h_1 : R7Heap) (h_1_lA : Option Addr) (h_1_lC : Nat), v = .agg #[iv r0.worth.cost, iv r0.worth.cells, iv r0.state] ∧ Q r0 h_1 ∧ Sat w0 F0 [hbox h_g 99 [.slice h_1_lA h_1.l.length h_1_lC], hown 102 h_1_lA h_1_lC h_1.l] w' := by
 refine fn_enter Try.func73 rfl Try.ntmps73 rfl (fs := [(0, (pn h_g 0))]) rfl (fun a hf => ?_)
 have hs := hs0
 unfold M_heap7_pop at h
 refine wp_seq (R.list ?_)
 refine S.alloc hf hs rfl rfl rfl [iv 0, iv 0, iv 0] rfl Try.zeroValue102 rfl (fun g1 a w hf hs => ?_)
 refine R.nil (X.then_ (wp_seq (R.list ?_)))
 refine S.p hf hs ((pn h_g 0)) rfl rfl fun a hf => ?_
 refine S.p hf hs ((pn h_g 0)) rfl rfl fun a hf => ?_
 refine S.v hf hs ((pn h_g 0)) rfl (V.fieldBox rfl rfl Try.runUnderlying99 rfl Try.sizeOf97 rfl rfl) fun a hf => ?_
 refine S.v hf hs (.slice h__lA h_.l.length h__lC) rfl (V.loadBox 1 rfl rfl rfl Try.isAgg97 Try.sizeOf97 rfl rfl) fun a hf => ?_
 obtain ⟨h0x1, x1, hx1, h⟩ := h
 refine S.v hf hs (elemPtr h__lA (0 * 3)) rfl (V.index rfl rfl rfl Try.runUnderlying97 Try.sizeOf102 (hs.ownSome 2 rfl (lt_of_get hx1)) h0x1 (lt_of_get hx1) rfl) fun a hf => ?_
 refine S.v hf hs (.agg #[iv x1.worth.cost, iv x1.worth.cells, iv x1.state]) rfl (V.loadOwn (off := 0) 2 rfl hx1 rfl rfl rfl Try.isAgg102 Try.sizeOf102 rfl rfl) fun a hf => ?_
 refine S.alloc hf hs rfl rfl rfl [iv 0, iv 0, iv 0] rfl Try.zeroValue102 rfl (fun g2 a w hf hs => ?_)
 refine S.storeBox 0 hf hs rfl rfl [iv x1.worth.cost, iv x1.worth.cells, iv x1.state] [iv x1.worth.cost, iv x1.worth.cells, iv x1.state] rfl rfl rfl rfl rfl Try.sizeOf102 rfl rfl rfl rfl (fun a w hf hs => ?_)
 refine R.nil (X.then_ (wp_seq (R.list ?_)))
 refine S.p hf hs ((pn h_g 0)) rfl rfl fun a hf => ?_
 refine S.p hf hs ((pn h_g 0)) rfl rfl fun a hf => ?_
 refine S.v hf hs ((pn h_g 0)) rfl (V.fieldBox rfl rfl Try.runUnderlying99 rfl Try.sizeOf97 rfl rfl) fun a hf => ?_
 refine S.v hf hs (.slice h__lA h_.l.length h__lC) rfl (V.loadBox 2 rfl rfl rfl Try.isAgg97 Try.sizeOf97 rfl rfl) fun a hf => ?_
 refine S.v hf hs (iv (h_.l.length : Int)) rfl (V.len rfl rfl Try.runUnderlying97) fun a hf => ?_
 refine S.p hf hs (iv (w64 ((h_.l.length : Int) - 1))) rfl rfl fun a hf => ?_
 refine S.p hf hs (iv (w64 ((h_.l.length : Int) - 1))) rfl rfl fun a hf => ?_
 refine R.nil (X.then_ (wp_seq ?_))
 refine M.start 12 (Sat w0 F0 [hbox g2 102 [iv x1.worth.cost, iv x1.worth.cells, iv x1.state], hbox g1 102 [iv 0, iv 0, iv 0], hbox h_g 99 [.slice h__lA h_.l.length h__lC], hown 102 h__lA h__lC h_.l]) mo ?_
 replace hs := hs.drew
 refine M.v hf hs ((pn h_g 0)) 0 rfl rfl (by kernel_rfl) (V.pure rfl) fun a hf => ?_
 refine M.v hf hs ((pn h_g 0)) 1 rfl rfl (by kernel_rfl) (V.pure rfl) fun a hf => ?_
 refine M.v hf hs ((pn h_g 0)) 2 rfl rfl (by kernel_rfl) (V.fieldBox rfl rfl Try.runUnderlying99 rfl Try.sizeOf97 rfl rfl) fun a hf => ?_
 refine M.v hf hs (.slice h__lA h_.l.length h__lC) 3 rfl rfl (by kernel_rfl) (V.loadBox 2 rfl rfl rfl Try.isAgg97 Try.sizeOf97 rfl rfl) fun a hf => ?_
 refine M.v hf hs ((pn h_g 0)) 4 rfl rfl (by kernel_rfl) (V.pure rfl) fun a hf => ?_
 refine M.v hf hs ((pn h_g 0)) 5 rfl rfl (by kernel_rfl) (V.pure rfl) fun a hf => ?_
 refine M.v hf hs ((pn h_g 0)) 6 rfl rfl (by kernel_rfl) (V.fieldBox rfl rfl Try.runUnderlying99 rfl Try.sizeOf97 rfl rfl) fun a hf => ?_
 refine M.v hf hs (.slice h__lA h_.l.length h__lC) 7 rfl rfl (by kernel_rfl) (V.loadBox 2 rfl rfl rfl Try.isAgg97 Try.sizeOf97 rfl rfl) fun a hf => ?_
 refine M.v hf hs (iv (w64 ((h_.l.length : Int) - 1))) 8 rfl rfl (by kernel_rfl) (V.pure rfl) fun a hf => ?_
 obtain ⟨h0x2, x2, hx2, h⟩ := h
 refine M.v hf hs (elemPtr h__lA ((w64 ((h_.l.length : Int) - 1)).toNat * 3)) 9 rfl rfl (by kernel_rfl) (V.index rfl rfl rfl Try.runUnderlying97 Try.sizeOf102 (hs.ownSome 3 rfl (lt_of_get hx2)) h0x2 (lt_of_get hx2) rfl) fun a hf => ?_
 refine M.v hf hs (.agg #[iv x2.worth.cost, iv x2.worth.cells, iv x2.state]) 10 rfl rfl (by kernel_rfl) (V.loadOwn (off := 0) 3 rfl hx2 rfl rfl rfl Try.isAgg102 Try.sizeOf102 rfl rfl) fun a hf => ?_
 refine M.v hf hs (elemPtr h__lA (0 * 3)) 11 rfl rfl (by kernel_rfl) (V.index rfl rfl rfl Try.runUnderlying97 Try.sizeOf102 (hs.ownSome 3 rfl (lt_of_get hx1)) h0x1 (lt_of_get hx1) rfl) fun a hf => ?_
 refine M.last (i := 12) rfl (by kernel_rfl) (by kernel_rfl) ?_
 refine S.storeOwn (off := 0) 3 hf hs rfl rfl x2 [iv x2.worth.cost, iv x2.worth.cells, iv x2.state] rfl hx1 rfl rfl rfl rfl rfl Try.sizeOf102 rfl (by decide) rfl rfl (fun a w hf hs => ?_)
 replace hs := hs.rebox 2 (vs' := [.slice h__lA (h_.l.set 0 x2).length h__lC]) rfl (congrArg (fun n => [Value.slice h__lA n h__lC]) List.length_set.symm)
 replace hf := hf.tell 10 (v := .slice h__lA (h_.l.set 0 x2).length h__lC) ((hf.get 10 (.slice h__lA h_.l.length h__lC) rfl).trans (congrArg (fun n => Value.slice h__lA n h__lC) List.length_set.symm))
 replace hf := hf.tell 16 (v := .slice h__lA (h_.l.set 0 x2).length h__lC) ((hf.get 16 (.slice h__lA h_.l.length h__lC) rfl).trans (congrArg (fun n => Value.slice h__lA n h__lC) List.length_set.symm))
 replace hf := hf.tell 22 (v := .slice h__lA (h_.l.set 0 x2).length h__lC) ((hf.get 22 (.slice h__lA h_.l.length h__lC) rfl).trans (congrArg (fun n => Value.slice h__lA n h__lC) List.length_set.symm))
 replace hf := hf.tell 26 (v := .slice h__lA (h_.l.set 0 x2).length h__lC) ((hf.get 26 (.slice h__lA h_.l.length h__lC) rfl).trans (congrArg (fun n => Value.slice h__lA n h__lC) List.length_set.symm))
 refine R.nil (X.then_ ?_)
 refine M.done (by kernel_rfl) ?_
 refine X.then_ (wp_seq (R.list ?_))
 refine S.p hf hs ((pn h_g 0)) rfl rfl fun a hf => ?_
 refine S.p hf hs ((pn h_g 0)) rfl rfl fun a hf => ?_
 refine S.p hf hs ((pn h_g 0)) rfl rfl fun a hf => ?_
 refine S.v hf hs ((pn h_g 0)) rfl (V.fieldBox rfl rfl Try.runUnderlying99 rfl Try.sizeOf97 rfl rfl) fun a hf => ?_
 refine S.v hf hs (.slice h__lA (h_.l.set 0 x2).length h__lC) rfl (V.loadBox 2 rfl rfl rfl Try.isAgg97 Try.sizeOf97 rfl rfl) fun a hf => ?_
 refine S.p hf hs (iv (w64 ((h_.l.length : Int) - 1))) rfl rfl fun a hf => ?_
 obtain ⟨hp1, h⟩ := h
 refine S.v hf hs (.slice h__lA ((h_.l.set 0 x2).take (w64 ((h_.l.length : Int) - 1)).toNat).length h__lC) rfl (V.slicePre (xs := (h_.l.set 0 x2)) rfl rfl rfl rfl Try.runUnderlying97 Try.sizeOf102 rfl hp1 (hs.ownView 3 rfl).cap) fun a hf => ?_
 refine S.p hf hs ((pn h_g 0)) rfl rfl fun a hf => ?_
 refine S.v hf hs ((pn h_g 0)) rfl (V.fieldBox rfl rfl Try.runUnderlying99 rfl Try.sizeOf97 rfl rfl) fun a hf => ?_
 refine S.storeBox 2 hf hs rfl rfl [.slice h__lA ((h_.l.set 0 x2).take (w64 ((h_.l.length : Int) - 1)).toNat).length h__lC] [.slice h__lA ((h_.l.set 0 x2).take (w64 ((h_.l.length : Int) - 1)).toNat).length h__lC] rfl rfl rfl rfl rfl Try.sizeOf97 rfl rfl rfl rfl (fun a w hf hs => ?_)
 refine R.nil (X.then_ (wp_seq ?_))
 refine C.cut (J := fun a w => ∃ (l1 : List R7Entry) (l1A : Option Addr) (l1C : Nat), M_heap7_pop_k1 Q x1 l1 ∧ FrOk 120 [(2, (pn g1 0)), (3, (pn g2 0))] a ∧ Sat w0 F0 [hbox g2 102 [iv x1.worth.cost, iv x1.worth.cells, iv x1.state], hbox g1 102 [iv 0, iv 0, iv 0], hbox h_g 99 [.slice l1A l1.length l1C], hown 102 l1A l1C l1] w) ?_ ?_
 ·rintro a w ⟨l1, l1A, l1C, h, hf, hs⟩
  unfold M_heap7_pop_k1 at h
  refine wp_seq (R.list ?_)
  refine S.v hf hs (.agg #[iv x1.worth.cost, iv x1.worth.cells, iv x1.state]) rfl (V.loadBox 0 rfl rfl rfl Try.isAgg102 Try.sizeOf102 rfl rfl) fun a hf => ?_
  refine S.storeBox 1 hf hs rfl rfl [iv x1.worth.cost, iv x1.worth.cells, iv x1.state] [iv x1.worth.cost, iv x1.worth.cells, iv x1.state] rfl rfl rfl rfl rfl Try.sizeOf102 rfl rfl rfl rfl (fun a w hf hs => ?_)
  refine R.nil (X.then_ (wp_ret ?_))
  have hsR := hs
  replace hs := hs.front 3 rfl
  replace hs := hs.front 3 rfl
  replace hs := hs.take 2
  exact L.ret hf (run_results1 Try.results73 (ResIs.box hf hsR 1 rfl rfl Try.isAgg102 Try.sizeOf102 rfl rfl)) ⟨x1, (⟨l1⟩ : R7Heap), l1A, l1C, rfl, h, hs⟩
 ·skip
  refine wp_seq (R.list ?_)
  refine S.p hf hs (iv 0) rfl rfl fun a hf => ?_
  refine R.nil (X.then_ (wp_block ?_))
  replace hs := hs.shorten (xs := (h_.l.set 0 x2)) 3 rfl ((w64 ((h_.l.length : Int) - 1)).toNat) (by have := hp1; omega)
  obtain ⟨kk, h⟩ := h
  refine C.loop (fun kk a w => ∃ (l3 : List R7Entry) (l3A : Option Addr) (l3C : Nat) (n2 : Int), iterF (fun again (s : List R7Entry × Int) => M_heap7_pop_L1 h_ Q x1 (fun l3 n2 => again (l3, n2)) s.1 s.2) kk (l3, n2) ∧ FrOk 120 [(0, (pn h_g 0)), (2, (pn g1 0)), (3, (pn g2 0)), (4, iv (w64 ((h_.l.length : Int) - 1))), (5, iv n2)] a ∧ Sat w0 F0 [hbox g2 102 [iv x1.worth.cost, iv x1.worth.cells, iv x1.state], hbox g1 102 [iv 0, iv 0, iv 0], hbox h_g 99 [.slice l3A l3.length l3C], hown 102 l3A l3C l3] w) kk ⟨((h_.l.set 0 x2).take (w64 ((h_.l.length : Int) - 1)).toNat), h__lA, h__lC, 0, h, (((((hf.nil.cons (hf.get 5 _ rfl)).cons (hf.get 4 _ rfl)).cons (hf.get 3 _ rfl)).cons (hf.get 2 _ rfl)).cons (hf.get 0 _ rfl)), hs⟩ (fun a w ⟨_, _, _, _, h, _, _⟩ => h) ?_
  clear h hf hs
  rintro kk a w ⟨l3, l3A, l3C, n2, h, hf, hs⟩
  obtain ⟨again1, hagain1⟩ : ∃ X : List R7Entry → Int → Prop, X = (fun l3 n2 => iterF (fun again (s : List R7Entry × Int) => M_heap7_pop_L1 h_ Q x1 (fun l3 n2 => again (l3, n2)) s.1 s.2) kk (l3, n2)) := ⟨_, rfl⟩
  replace h : M_heap7_pop_L1 h_ Q x1 again1 l3 n2 := by rw [hagain1]; exact h
  unfold M_heap7_pop_L1 at h
  refine wp_seq (wp_seq (R.list ?_))
  refine S.p hf hs (iv n2) rfl rfl fun a hf => ?_
  refine S.p hf hs (iv (w64 (2 * n2))) rfl rfl fun a hf => ?_
  refine S.p hf hs (iv (w64 ((w64 (2 * n2)) + 1))) rfl rfl fun a hf => ?_
  refine S.p hf hs (iv (w64 ((h_.l.length : Int) - 1))) rfl rfl fun a hf => ?_
  refine S.p hf hs (.bool (decide (w64 ((w64 (2 * n2)) + 1) < w64 ((h_.l.length : Int) - 1)))) rfl rfl fun a hf => ?_
  refine R.nil (X.then_ ?_)
  refine C.cond hf (b := decide (w64 ((w64 (2 * n2)) + 1) < w64 ((h_.l.length : Int) - 1))) rfl (fun hc => ?_) (fun hc => ?_)
  ·replace h := h.1 hc
   refine wp_skip (X.then_ (wp_block (wp_seq (R.list ?_))))
   refine S.p hf hs (iv n2) rfl rfl fun a hf => ?_
   refine S.p hf hs (iv (w64 (2 * n2))) rfl rfl fun a hf => ?_
   refine S.p hf hs (iv (w64 ((w64 (2 * n2)) + 1))) rfl rfl fun a hf => ?_
   refine S.p hf hs (iv (w64 ((w64 (2 * n2)) + 1))) rfl rfl fun a hf => ?_
   refine R.nil (X.then_ (wp_seq ?_))
   refine C.cut (J := fun a w => ∃ (n3 : Int), M_heap7_pop_k3 Q x1 l3 n2 again1 n3 ∧ FrOk 120 [(0, (pn h_g 0)), (2, (pn g1 0)), (3, (pn g2 0)), (4, iv (w64 ((h_.l.length : Int) - 1))), (5, iv n2), (6, iv n3)] a ∧ Sat w0 F0 [hbox g2 102 [iv x1.worth.cost, iv x1.worth.cells, iv x1.state], hbox g1 102 [iv 0, iv 0, iv 0], hbox h_g 99 [.slice l3A l3.length l3C], hown 102 l3A l3C l3] w) ?_ ?_
   ·rintro a w ⟨n3, h, hf, hs⟩
    unfold M_heap7_pop_k3 at h
    refine wp_seq (wp_seq ?_)
    refine H.start (S := Sat w0 F0 [hbox g2 102 [iv x1.worth.cost, iv x1.worth.cells, iv x1.state], hbox g1 102 [iv 0, iv 0, iv 0], hbox h_g 99 [.slice l3A l3.length l3C], hown 102 l3A l3C l3]) mo ?_
    replace hs := hs.drew
    refine H.v hf hs ((pn h_g 0)) 0 rfl rfl (by kernel_rfl) (V.pure rfl) fun a hf => ?_
    refine H.v hf hs ((pn h_g 0)) 1 rfl rfl (by kernel_rfl) (V.pure rfl) fun a hf => ?_
    refine H.v hf hs ((pn h_g 0)) 2 rfl rfl (by kernel_rfl) (V.fieldBox rfl rfl Try.runUnderlying99 rfl Try.sizeOf97 rfl rfl) fun a hf => ?_
    refine H.v hf hs (.slice l3A l3.length l3C) 3 rfl rfl (by kernel_rfl) (V.loadBox 2 rfl rfl rfl Try.isAgg97 Try.sizeOf97 rfl rfl) fun a hf => ?_
    refine H.v hf hs (iv n3) 4 rfl rfl (by kernel_rfl) (V.pure rfl) fun a hf => ?_
    obtain ⟨h0x3, x3, hx3, h⟩ := h
    refine H.v hf hs (elemPtr l3A (n3.toNat * 3)) 5 rfl rfl (by kernel_rfl) (V.index rfl rfl rfl Try.runUnderlying97 Try.sizeOf102 (hs.ownSome 3 rfl (lt_of_get hx3)) h0x3 (lt_of_get hx3) rfl) fun a hf => ?_
    refine H.v hf hs (elemPtr l3A (n3.toNat * 3)) 6 rfl rfl (by kernel_rfl) (V.fieldEl rfl rfl (hs.ownSome 3 rfl (lt_of_get hx3)) Try.runUnderlying102 rfl Try.sizeOf60 rfl rfl) fun a hf => ?_
    refine H.v hf hs (.agg #[iv x3.worth.cost, iv x3.worth.cells]) 7 rfl rfl (by kernel_rfl) (V.loadOwn (off := 0) 3 rfl hx3 rfl rfl rfl Try.isAgg60 Try.sizeOf60 rfl rfl) fun a hf => ?_
    refine H.v hf hs ((pn h_g 0)) 8 rfl rfl (by kernel_rfl) (V.pure rfl) fun a hf => ?_
    refine H.v hf hs ((pn h_g 0)) 9 rfl rfl (by kernel_rfl) (V.pure rfl) fun a hf => ?_
    refine H.v hf hs ((pn h_g 0)) 10 rfl rfl (by kernel_rfl) (V.fieldBox rfl rfl Try.runUnderlying99 rfl Try.sizeOf97 rfl rfl) fun a hf => ?_
    refine H.v hf hs (.slice l3A l3.length l3C) 11 rfl rfl (by kernel_rfl) (V.loadBox 2 rfl rfl rfl Try.isAgg97 Try.sizeOf97 rfl rfl) fun a hf => ?_
    refine H.v hf hs (iv n2) 12 rfl rfl (by kernel_rfl) (V.pure rfl) fun a hf => ?_
    obtain ⟨h0x4, x4, hx4, h⟩ := h
    refine H.v hf hs (elemPtr l3A (n2.toNat * 3)) 13 rfl rfl (by kernel_rfl) (V.index rfl rfl rfl Try.runUnderlying97 Try.sizeOf102 (hs.ownSome 3 rfl (lt_of_get hx4)) h0x4 (lt_of_get hx4) rfl) fun a hf => ?_
    refine H.v hf hs (elemPtr l3A (n2.toNat * 3)) 14 rfl rfl (by kernel_rfl) (V.fieldEl rfl rfl (hs.ownSome 3 rfl (lt_of_get hx4)) Try.runUnderlying102 rfl Try.sizeOf60 rfl rfl) fun a hf => ?_
    refine H.v hf hs (.agg #[iv x4.worth.cost, iv x4.worth.cells]) 15 rfl rfl (by kernel_rfl) (V.loadOwn (off := 0) 3 rfl hx4 rfl rfl rfl Try.isAgg60 Try.sizeOf60 rfl rfl) fun a hf => ?_
    refine H.one (i := 16) rfl (by kernel_rfl) ?_
    refine S.call hf rfl rfl rfl (call_fn (vs := [.agg #[iv x3.worth.cost, iv x3.worth.cells], .agg #[iv x4.worth.cost, iv x4.worth.cells]]) rfl rfl rfl Try.call94) (R_worth_less x3.worth x4.worth _  _ h) (fun v a w' hf hr => ?_)
    obtain ⟨y1, rfl, h2, hs2⟩ := hr
    replace h := h2; replace hs := hs.call hs2; clear h2 hs2
    refine R.nil (X.then_ ?_)
    refine ⟨hs, ?_⟩
    refine H.v hf hs (.bool (!y1)) 17 rfl rfl (by kernel_rfl) (V.pure rfl) fun a hf => ?_
    refine H.done (by kernel_rfl) ?_
    refine X.then_ ?_
    refine C.cond hf (b := !y1) rfl (fun hc => ?_) (fun hc => ?_)
    ·replace h := h.1 hc
     refine wp_exit (X.then_exit ?_)
     refine X.blk_other rfl ?_
     refine X.then_exit (X.blk_exit (X.then_ ?_))
     exact ⟨l3, l3A, l3C, h, ((hf.nil.cons (hf.get 3 _ rfl)).cons (hf.get 2 _ rfl)), hs⟩
    ·replace h := h.2 hc
     refine wp_skip (X.then_ (wp_seq ?_))
     refine M.start 25 (Sat w0 F0 [hbox g2 102 [iv x1.worth.cost, iv x1.worth.cells, iv x1.state], hbox g1 102 [iv 0, iv 0, iv 0], hbox h_g 99 [.slice l3A l3.length l3C], hown 102 l3A l3C l3]) mo ?_
     replace hs := hs.drew
     refine M.v hf hs ((pn h_g 0)) 0 rfl rfl (by kernel_rfl) (V.pure rfl) fun a hf => ?_
     refine M.v hf hs ((pn h_g 0)) 1 rfl rfl (by kernel_rfl) (V.pure rfl) fun a hf => ?_
     refine M.v hf hs ((pn h_g 0)) 2 rfl rfl (by kernel_rfl) (V.fieldBox rfl rfl Try.runUnderlying99 rfl Try.sizeOf97 rfl rfl) fun a hf => ?_
     refine M.v hf hs (.slice l3A l3.length l3C) 3 rfl rfl (by kernel_rfl) (V.loadBox 2 rfl rfl rfl Try.isAgg97 Try.sizeOf97 rfl rfl) fun a hf => ?_
     refine M.v hf hs (iv n2) 4 rfl rfl (by kernel_rfl) (V.pure rfl) fun a hf => ?_
     refine M.valp hf hs (v := (pn h_g 0)) (i := 5) rfl rfl rfl rfl (by kernel_rfl) (by kernel_rfl) (by kernel_rfl) rfl (fun w1 => V.pure rfl) (fun a hf => ?_)
     refine M.valp hf hs (v := (pn h_g 0)) (i := 6) rfl rfl rfl rfl (by kernel_rfl) (by kernel_rfl) (by kernel_rfl) rfl (fun w1 => V.pure rfl) (fun a hf => ?_)
     refine M.valp hf hs (v := (pn h_g 0)) (i := 7) rfl rfl rfl rfl (by kernel_rfl) (by kernel_rfl) (by kernel_rfl) rfl (fun w1 => V.fieldBox rfl rfl Try.runUnderlying99 rfl Try.sizeOf97 rfl rfl) (fun a hf => ?_)
     refine M.v hf hs (.slice l3A l3.length l3C) 8 rfl rfl (by kernel_rfl) (V.loadBox 2 rfl rfl rfl Try.isAgg97 Try.sizeOf97 rfl rfl) fun a hf => ?_
     refine M.valp hf hs (v := iv n3) (i := 9) rfl rfl rfl rfl (by kernel_rfl) (by kernel_rfl) (by kernel_rfl) rfl (fun w1 => V.pure rfl) (fun a hf => ?_)
     refine M.v hf hs ((pn h_g 0)) 10 rfl rfl (by kernel_rfl) (V.pure rfl) fun a hf => ?_
     refine M.v hf hs ((pn h_g 0)) 11 rfl rfl (by kernel_rfl) (V.pure rfl) fun a hf => ?_
     refine M.v hf hs ((pn h_g 0)) 12 rfl rfl (by kernel_rfl) (V.fieldBox rfl rfl Try.runUnderlying99 rfl Try.sizeOf97 rfl rfl) fun a hf => ?_
     refine M.v hf hs (.slice l3A l3.length l3C) 13 rfl rfl (by kernel_rfl) (V.loadBox 2 rfl rfl rfl Try.isAgg97 Try.sizeOf97 rfl rfl) fun a hf => ?_
     refine M.v hf hs (iv n3) 14 rfl rfl (by kernel_rfl) (V.pure rfl) fun a hf => ?_
     refine M.v hf hs (elemPtr l3A (n3.toNat * 3)) 15 rfl rfl (by kernel_rfl) (V.index rfl rfl rfl Try.runUnderlying97 Try.sizeOf102 (hs.ownSome 3 rfl (lt_of_get hx3)) h0x3 (lt_of_get hx3) rfl) fun a hf => ?_
     refine M.v hf hs (.agg #[iv x3.worth.cost, iv x3.worth.cells, iv x3.state]) 16 rfl rfl (by kernel_rfl) (V.loadOwn (off := 0) 3 rfl hx3 rfl rfl rfl Try.isAgg102 Try.sizeOf102 rfl rfl) fun a hf => ?_
     refine M.valp hf hs (v := (pn h_g 0)) (i := 17) rfl rfl rfl rfl (by kernel_rfl) (by kernel_rfl) (by kernel_rfl) rfl (fun w1 => V.pure rfl) (fun a hf => ?_)
     refine M.valp hf hs (v := (pn h_g 0)) (i := 18) rfl rfl rfl rfl (by kernel_rfl) (by kernel_rfl) (by kernel_rfl) rfl (fun w1 => V.pure rfl) (fun a hf => ?_)
     refine M.valp hf hs (v := (pn h_g 0)) (i := 19) rfl rfl rfl rfl (by kernel_rfl) (by kernel_rfl) (by kernel_rfl) rfl (fun w1 => V.fieldBox rfl rfl Try.runUnderlying99 rfl Try.sizeOf97 rfl rfl) (fun a hf => ?_)
     refine M.v hf hs (.slice l3A l3.length l3C) 20 rfl rfl (by kernel_rfl) (V.loadBox 2 rfl rfl rfl Try.isAgg97 Try.sizeOf97 rfl rfl) fun a hf => ?_
     refine M.valp hf hs (v := iv n2) (i := 21) rfl rfl rfl rfl (by kernel_rfl) (by kernel_rfl) (by kernel_rfl) rfl (fun w1 => V.pure rfl) (fun a hf => ?_)
     refine M.valp hf hs (v := elemPtr l3A (n2.toNat * 3)) (i := 22) rfl rfl rfl rfl (by kernel_rfl) (by kernel_rfl) (by kernel_rfl) rfl (fun w1 => V.index rfl rfl rfl Try.runUnderlying97 Try.sizeOf102 (hs.ownSome 3 rfl (lt_of_get hx4)) h0x4 (lt_of_get hx4) rfl) (fun a hf => ?_)
     refine M.v hf hs (.agg #[iv x4.worth.cost, iv x4.worth.cells, iv x4.state]) 23 rfl rfl (by kernel_rfl) (V.loadOwn (off := 0) 3 rfl hx4 rfl rfl rfl Try.isAgg102 Try.sizeOf102 rfl rfl) fun a hf => ?_
     refine M.v hf hs (elemPtr l3A (n2.toNat * 3)) 24 rfl rfl (by kernel_rfl) (V.index rfl rfl rfl Try.runUnderlying97 Try.sizeOf102 (hs.ownSome 3 rfl (lt_of_get hx4)) h0x4 (lt_of_get hx4) rfl) fun a hf => ?_
     refine M.last (i := 25) rfl (by kernel_rfl) (by kernel_rfl) ?_
     refine S.storeOwn (off := 0) 3 hf hs rfl rfl x3 [iv x3.worth.cost, iv x3.worth.cells, iv x3.state] rfl hx4 rfl rfl rfl rfl rfl Try.sizeOf102 rfl (by decide) rfl rfl (fun a w hf hs => ?_)
     replace hs := hs.rebox 2 (vs' := [.slice l3A (l3.set n2.toNat x3).length l3C]) rfl (congrArg (fun n => [Value.slice l3A n l3C]) List.length_set.symm)
     replace hf := hf.tell 77 (v := .slice l3A (l3.set n2.toNat x3).length l3C) ((hf.get 77 (.slice l3A l3.length l3C) rfl).trans (congrArg (fun n => Value.slice l3A n l3C) List.length_set.symm))
     replace hf := hf.tell 85 (v := .slice l3A (l3.set n2.toNat x3).length l3C) ((hf.get 85 (.slice l3A l3.length l3C) rfl).trans (congrArg (fun n => Value.slice l3A n l3C) List.length_set.symm))
     replace hf := hf.tell 95 (v := .slice l3A (l3.set n2.toNat x3).length l3C) ((hf.get 95 (.slice l3A l3.length l3C) rfl).trans (congrArg (fun n => Value.slice l3A n l3C) List.length_set.symm))
     replace hf := hf.tell 100 (v := .slice l3A (l3.set n2.toNat x3).length l3C) ((hf.get 100 (.slice l3A l3.length l3C) rfl).trans (congrArg (fun n => Value.slice l3A n l3C) List.length_set.symm))
     replace hf := hf.tell 105 (v := .slice l3A (l3.set n2.toNat x3).length l3C) ((hf.get 105 (.slice l3A l3.length l3C) rfl).trans (congrArg (fun n => Value.slice l3A n l3C) List.length_set.symm))
     replace hf := hf.tell 112 (v := .slice l3A (l3.set n2.toNat x3).length l3C) ((hf.get 112 (.slice l3A l3.length l3C) rfl).trans (congrArg (fun n => Value.slice l3A n l3C) List.length_set.symm))
     refine R.nil (X.then_ ?_)
     refine M.last (i := 26) rfl (by kernel_rfl) (by kernel_rfl) ?_
     obtain ⟨h0x5, x5, hx5, h⟩ := h
     refine S.v hf hs (elemPtr l3A (n3.toNat * 3)) rfl (V.index rfl rfl rfl Try.runUnderlying97 Try.sizeOf102 (hs.ownSome 3 rfl (lt_of_get hx5)) h0x5 (lt_of_get hx5) rfl) fun a hf => ?_
     refine R.nil (X.then_ ?_)
     refine M.last (i := 27) rfl (by kernel_rfl) (by kernel_rfl) ?_
     refine S.storeOwn (off := 0) 3 hf hs rfl rfl x4 [iv x4.worth.cost, iv x4.worth.cells, iv x4.state] rfl hx5 rfl rfl rfl rfl rfl Try.sizeOf102 rfl (by decide) rfl rfl (fun a w hf hs => ?_)
     replace hs := hs.rebox 2 (vs' := [.slice l3A ((l3.set n2.toNat x3).set n3.toNat x4).length l3C]) rfl (congrArg (fun n => [Value.slice l3A n l3C]) List.length_set.symm)
     replace hf := hf.tell 77 (v := .slice l3A ((l3.set n2.toNat x3).set n3.toNat x4).length l3C) ((hf.get 77 (.slice l3A (l3.set n2.toNat x3).length l3C) rfl).trans (congrArg (fun n => Value.slice l3A n l3C) List.length_set.symm))
     replace hf := hf.tell 85 (v := .slice l3A ((l3.set n2.toNat x3).set n3.toNat x4).length l3C) ((hf.get 85 (.slice l3A (l3.set n2.toNat x3).length l3C) rfl).trans (congrArg (fun n => Value.slice l3A n l3C) List.length_set.symm))
     replace hf := hf.tell 95 (v := .slice l3A ((l3.set n2.toNat x3).set n3.toNat x4).length l3C) ((hf.get 95 (.slice l3A (l3.set n2.toNat x3).length l3C) rfl).trans (congrArg (fun n => Value.slice l3A n l3C) List.length_set.symm))
     replace hf := hf.tell 100 (v := .slice l3A ((l3.set n2.toNat x3).set n3.toNat x4).length l3C) ((hf.get 100 (.slice l3A (l3.set n2.toNat x3).length l3C) rfl).trans (congrArg (fun n => Value.slice l3A n l3C) List.length_set.symm))
     replace hf := hf.tell 105 (v := .slice l3A ((l3.set n2.toNat x3).set n3.toNat x4).length l3C) ((hf.get 105 (.slice l3A (l3.set n2.toNat x3).length l3C) rfl).trans (congrArg (fun n => Value.slice l3A n l3C) List.length_set.symm))
     replace hf := hf.tell 112 (v := .slice l3A ((l3.set n2.toNat x3).set n3.toNat x4).length l3C) ((hf.get 112 (.slice l3A (l3.set n2.toNat x3).length l3C) rfl).trans (congrArg (fun n => Value.slice l3A n l3C) List.length_set.symm))
     refine R.nil (X.then_ ?_)
     refine M.done (by kernel_rfl) ?_
     refine X.then_ (R.list ?_)
     refine S.p hf hs (iv n3) rfl rfl fun a hf => ?_
     refine S.p hf hs (iv n3) rfl rfl fun a hf => ?_
     refine R.nil (X.blk (X.then_ ?_))
     exact ⟨((l3.set n2.toNat x3).set n3.toNat x4), l3A, l3C, n3, (by rw [hagain1] at h; exact h), (((((hf.nil.cons (hf.get 5 _ rfl)).cons (hf.get 4 _ rfl)).cons (hf.get 3 _ rfl)).cons (hf.get 2 _ rfl)).cons (hf.get 0 _ rfl)), hs⟩
   ·skip
    refine wp_seq ?_
    refine C.cut (J := fun a w => ∃ (c1 : Bool), M_heap7_pop_k4 Q x1 l3 n2 again1 c1 ∧ FrOk 120 [(0, (pn h_g 0)), (2, (pn g1 0)), (3, (pn g2 0)), (4, iv (w64 ((h_.l.length : Int) - 1))), (5, iv n2), (6, iv (w64 ((w64 (2 * n2)) + 1))), (71, .bool c1)] a ∧ Sat w0 F0 [hbox g2 102 [iv x1.worth.cost, iv x1.worth.cells, iv x1.state], hbox g1 102 [iv 0, iv 0, iv 0], hbox h_g 99 [.slice l3A l3.length l3C], hown 102 l3A l3C l3] w) ?_ ?_
    ·rintro a w ⟨c1, h, hf, hs⟩
     unfold M_heap7_pop_k4 at h
     refine C.cond hf (b := c1) rfl (fun hc => ?_) (fun hc => ?_)
     ·replace h := h.1 hc
      refine R.list ?_
      refine S.p hf hs (iv (w64 ((w64 (2 * n2)) + 1))) rfl rfl fun a hf => ?_
      refine S.p hf hs (iv (w64 ((w64 ((w64 (2 * n2)) + 1)) + 1))) rfl rfl fun a hf => ?_
      refine S.p hf hs (iv (w64 ((w64 ((w64 (2 * n2)) + 1)) + 1))) rfl rfl fun a hf => ?_
      refine R.nil (X.then_ ?_)
      exact ⟨(w64 ((w64 ((w64 (2 * n2)) + 1)) + 1)), h, ((((((hf.nil.cons (hf.get 6 _ rfl)).cons (hf.get 5 _ rfl)).cons (hf.get 4 _ rfl)).cons (hf.get 3 _ rfl)).cons (hf.get 2 _ rfl)).cons (hf.get 0 _ rfl)), hs⟩
     ·replace h := h.2 hc
      refine wp_skip (X.then_ ?_)
      exact ⟨(w64 ((w64 (2 * n2)) + 1)), h, ((((((hf.nil.cons (hf.get 6 _ rfl)).cons (hf.get 5 _ rfl)).cons (hf.get 4 _ rfl)).cons (hf.get 3 _ rfl)).cons (hf.get 2 _ rfl)).cons (hf.get 0 _ rfl)), hs⟩
    ·skip
     refine H.start (S := Sat w0 F0 [hbox g2 102 [iv x1.worth.cost, iv x1.worth.cells, iv x1.state], hbox g1 102 [iv 0, iv 0, iv 0], hbox h_g 99 [.slice l3A l3.length l3C], hown 102 l3A l3C l3]) mo ?_
     replace hs := hs.drew
     refine H.v hf hs (iv (w64 ((w64 (2 * n2)) + 1))) 0 rfl rfl (by kernel_rfl) (V.pure rfl) fun a hf => ?_
     refine H.v hf hs (iv (w64 ((w64 ((w64 (2 * n2)) + 1)) + 1))) 1 rfl rfl (by kernel_rfl) (V.pure rfl) fun a hf => ?_
     refine H.v hf hs (iv (w64 ((h_.l.length : Int) - 1))) 2 rfl rfl (by kernel_rfl) (V.pure rfl) fun a hf => ?_
     refine H.v hf hs (.bool (decide (w64 ((w64 ((w64 (2 * n2)) + 1)) + 1) < w64 ((h_.l.length : Int) - 1)))) 3 rfl rfl (by kernel_rfl) (V.pure rfl) fun a hf => ?_
     refine H.split hf hs (b := decide (w64 ((w64 ((w64 (2 * n2)) + 1)) + 1) < w64 ((h_.l.length : Int) - 1))) (i := 4) rfl rfl rfl rfl (by kernel_rfl) (by kernel_rfl) (by kernel_rfl) (V.pure rfl) (fun hc a hf => ?_) (fun hc a hf => ?_)
     ·replace h := h.1 hc
      refine H.v hf hs ((pn h_g 0)) 5 rfl rfl (by kernel_rfl) (V.pure rfl) fun a hf => ?_
      refine H.v hf hs ((pn h_g 0)) 6 rfl rfl (by kernel_rfl) (V.pure rfl) fun a hf => ?_
      refine H.v hf hs ((pn h_g 0)) 7 rfl rfl (by kernel_rfl) (V.fieldBox rfl rfl Try.runUnderlying99 rfl Try.sizeOf97 rfl rfl) fun a hf => ?_
      refine H.v hf hs (.slice l3A l3.length l3C) 8 rfl rfl (by kernel_rfl) (V.loadBox 2 rfl rfl rfl Try.isAgg97 Try.sizeOf97 rfl rfl) fun a hf => ?_
      refine H.v hf hs (iv (w64 ((w64 (2 * n2)) + 1))) 9 rfl rfl (by kernel_rfl) (V.pure rfl) fun a hf => ?_
      refine H.v hf hs (iv (w64 ((w64 ((w64 (2 * n2)) + 1)) + 1))) 10 rfl rfl (by kernel_rfl) (V.pure rfl) fun a hf => ?_
      obtain ⟨h0x6, x6, hx6, h⟩ := h
      refine H.v hf hs (elemPtr l3A ((w64 ((w64 ((w64 (2 * n2)) + 1)) + 1)).toNat * 3)) 11 rfl rfl (by kernel_rfl) (V.index rfl rfl rfl Try.runUnderlying97 Try.sizeOf102 (hs.ownSome 3 rfl (lt_of_get hx6)) h0x6 (lt_of_get hx6) rfl) fun a hf => ?_
      refine H.v hf hs (elemPtr l3A ((w64 ((w64 ((w64 (2 * n2)) + 1)) + 1)).toNat * 3)) 12 rfl rfl (by kernel_rfl) (V.fieldEl rfl rfl (hs.ownSome 3 rfl (lt_of_get hx6)) Try.runUnderlying102 rfl Try.sizeOf60 rfl rfl) fun a hf => ?_
      refine H.v hf hs (.agg #[iv x6.worth.cost, iv x6.worth.cells]) 13 rfl rfl (by kernel_rfl) (V.loadOwn (off := 0) 3 rfl hx6 rfl rfl rfl Try.isAgg60 Try.sizeOf60 rfl rfl) fun a hf => ?_
      refine H.v hf hs ((pn h_g 0)) 14 rfl rfl (by kernel_rfl) (V.pure rfl) fun a hf => ?_
      refine H.v hf hs ((pn h_g 0)) 15 rfl rfl (by kernel_rfl) (V.pure rfl) fun a hf => ?_
      refine H.v hf hs ((pn h_g 0)) 16 rfl rfl (by kernel_rfl) (V.fieldBox rfl rfl Try.runUnderlying99 rfl Try.sizeOf97 rfl rfl) fun a hf => ?_
      refine H.v hf hs (.slice l3A l3.length l3C) 17 rfl rfl (by kernel_rfl) (V.loadBox 2 rfl rfl rfl Try.isAgg97 Try.sizeOf97 rfl rfl) fun a hf => ?_
      refine H.v hf hs (iv (w64 ((w64 (2 * n2)) + 1))) 18 rfl rfl (by kernel_rfl) (V.pure rfl) fun a hf => ?_
      obtain ⟨h0x7, x7, hx7, h⟩ := h
      refine H.v hf hs (elemPtr l3A ((w64 ((w64 (2 * n2)) + 1)).toNat * 3)) 19 rfl rfl (by kernel_rfl) (V.index rfl rfl rfl Try.runUnderlying97 Try.sizeOf102 (hs.ownSome 3 rfl (lt_of_get hx7)) h0x7 (lt_of_get hx7) rfl) fun a hf => ?_
      refine H.v hf hs (elemPtr l3A ((w64 ((w64 (2 * n2)) + 1)).toNat * 3)) 20 rfl rfl (by kernel_rfl) (V.fieldEl rfl rfl (hs.ownSome 3 rfl (lt_of_get hx7)) Try.runUnderlying102 rfl Try.sizeOf60 rfl rfl) fun a hf => ?_
      refine H.v hf hs (.agg #[iv x7.worth.cost, iv x7.worth.cells]) 21 rfl rfl (by kernel_rfl) (V.loadOwn (off := 0) 3 rfl hx7 rfl rfl rfl Try.isAgg60 Try.sizeOf60 rfl rfl) fun a hf => ?_
      refine H.one (i := 22) rfl (by kernel_rfl) ?_
      refine S.call hf rfl rfl rfl (call_fn (vs := [.agg #[iv x6.worth.cost, iv x6.worth.cells], .agg #[iv x7.worth.cost, iv x7.worth.cells]]) rfl rfl rfl Try.call94) (R_worth_less x6.worth x7.worth _  _ h) (fun v a w' hf hr => ?_)
      obtain ⟨y2, rfl, h2, hs2⟩ := hr
      replace h := h2; replace hs := hs.call hs2; clear h2 hs2
      refine R.nil (X.then_ ?_)
      refine ⟨hs, ?_⟩
      refine H.v hf hs (.bool y2) 23 rfl rfl (by kernel_rfl) (V.pure rfl) fun a hf => ?_
      refine H.done (by kernel_rfl) ?_
      refine X.then_ ?_
      exact ⟨y2, h, (((((((hf.nil.cons (hf.get 71 _ rfl)).cons (hf.get 6 _ rfl)).cons (hf.get 5 _ rfl)).cons (hf.get 4 _ rfl)).cons (hf.get 3 _ rfl)).cons (hf.get 2 _ rfl)).cons (hf.get 0 _ rfl)), hs⟩
     ·replace h := h.2 hc
      refine H.k hf hs 5 rfl rfl (by kernel_rfl) fun a hf => ?_
      refine H.k hf hs 6 rfl rfl (by kernel_rfl) fun a hf => ?_
      refine H.k hf hs 7 rfl rfl (by kernel_rfl) fun a hf => ?_
      refine H.k hf hs 8 rfl rfl (by kernel_rfl) fun a hf => ?_
      refine H.k hf hs 9 rfl rfl (by kernel_rfl) fun a hf => ?_
      refine H.k hf hs 10 rfl rfl (by kernel_rfl) fun a hf => ?_
      refine H.k hf hs 11 rfl rfl (by kernel_rfl) fun a hf => ?_
      refine H.k hf hs 12 rfl rfl (by kernel_rfl) fun a hf => ?_
      refine H.k hf hs 13 rfl rfl (by kernel_rfl) fun a hf => ?_
      refine H.k hf hs 14 rfl rfl (by kernel_rfl) fun a hf => ?_
      refine H.k hf hs 15 rfl rfl (by kernel_rfl) fun a hf => ?_
      refine H.k hf hs 16 rfl rfl (by kernel_rfl) fun a hf => ?_
      refine H.k hf hs 17 rfl rfl (by kernel_rfl) fun a hf => ?_
      refine H.k hf hs 18 rfl rfl (by kernel_rfl) fun a hf => ?_
      refine H.k hf hs 19 rfl rfl (by kernel_rfl) fun a hf => ?_
      refine H.k hf hs 20 rfl rfl (by kernel_rfl) fun a hf => ?_
      refine H.k hf hs 21 rfl rfl (by kernel_rfl) fun a hf => ?_
      refine H.one (i := 22) rfl (by kernel_rfl) ?_
      refine S.k hf rfl fun a hf => ?_
      refine R.nil (X.then_ ?_)
      refine ⟨hs, ?_⟩
      refine H.v hf hs (.bool false) 23 rfl rfl (by kernel_rfl) (V.pure rfl) fun a hf => ?_
      refine H.done (by kernel_rfl) ?_
      refine X.then_ ?_
      exact ⟨false, h, (((((((hf.nil.cons (hf.get 71 _ rfl)).cons (hf.get 6 _ rfl)).cons (hf.get 5 _ rfl)).cons (hf.get 4 _ rfl)).cons (hf.get 3 _ rfl)).cons (hf.get 2 _ rfl)).cons (hf.get 0 _ rfl)), hs⟩
  ·replace h := h.2 hc
   refine wp_exit (X.then_exit (X.then_exit (X.blk_exit (X.then_ ?_))))
   exact ⟨l3, l3A, l3C, h, ((hf.nil.cons (hf.get 3 _ rfl)).cons (hf.get 2 _ rfl)), hs⟩
set_option linter.unusedVariables false
def M_field_spread_k3 (f : R7Field) (e_ : R7Entry) (y1 : Cell) (xk1 : Cell) (y3 : Int) (l4 : List R7Entry) (n2 : Int) (again2 : List R7Entry → Int → Prop) (c1 : Bool) : Prop :=
  cnd c1 (again2 l4 (w64 (n2 + 1))) (M_ref7_stepCost f.c y1.Layer y3 n2 fun y4 => M_field_at f xk1 fun y5 => M_heap7_push (⟨l4⟩ : R7Heap) (⟨(⟨w64 (e_.worth.cost + y4), w64 (e_.worth.cells + 1)⟩ : R7Worth), w64 ((w64 (3 * y5)) + n2)⟩ : R7Entry) fun z1 => again2 z1.l (w64 (n2 + 1)))
def M_field_spread_L2 (f : R7Field) (e_ : R7Entry) (y1 : Cell) (xk1 : Cell) (next1 : List R7Entry → Prop) (y3 : Int) (again2 : List R7Entry → Int → Prop) (l4 : List R7Entry) (n2 : Int) : Prop :=
  cnd (decide (n2 < 3)) (cnd (y3 == 3) (cnd (n2 != (e_.state.tmod 3)) (M_field_spread_k3 f e_ y1 xk1 y3 l4 n2 again2 true) (cnd (y3 != 3) (M_field_spread_k3 f e_ y1 xk1 y3 l4 n2 again2 (y3 != (e_.state.tmod 3))) (M_field_spread_k3 f e_ y1 xk1 y3 l4 n2 again2 false))) (cnd (y3 != 3) (M_field_spread_k3 f e_ y1 xk1 y3 l4 n2 again2 (y3 != (e_.state.tmod 3))) (M_field_spread_k3 f e_ y1 xk1 y3 l4 n2 again2 false))) (next1 l4)
def M_field_spread_L1 (f : R7Field) (e_ : R7Entry) (y1 : Cell) (k1 : Nat) (xk1 : Cell) (l2 : List R7Entry) (next1 : List R7Entry → Prop) : Prop :=
  M_ref7_along xk1 y1 fun y3 => lp (fun again (s : List R7Entry × Int) => M_field_spread_L2 f e_ y1 xk1 next1 y3 (fun l4 n2 => again (l4, n2)) s.1 s.2) (l2, 0)
def M_field_spread (f : R7Field) (h_ : R7Heap) (e_ : R7Entry) (Q : R7Heap → Prop) : Prop :=
  M_field_cell f (w64 (e_.state.tdiv 3)) fun y1 => M_field_neighbours f y1 fun y2 => forIn' (fun k x (s : List R7Entry) next => M_field_spread_L1 f e_ y1 k x s (fun l2 => next l2)) (fun (s : List R7Entry) => (fun (l2 : List R7Entry) => Q (⟨l2⟩ : R7Heap)) s) y2 0 h_.l
set_option maxHeartbeats 1000000 in
theorem R_field_spread (f : R7Field) (h_ : R7Heap) (e_ : R7Entry) (w0 : World) (F0 : Nat → Prop) (f_g_BlockedA : Option Addr) (f_g_BlockedC : Nat) (hv_f_g_Blocked : View w0 (old w0 F0) f_g_BlockedA f_g_BlockedC f.g.Blocked) (f_blockedA : Option Addr) (f_blockedC : Nat) (hv_f_blocked : View w0 (old w0 F0) f_blockedA f_blockedC f.blocked) (f_bestA : Option Addr) (f_bestC : Nat) (hv_f_best : View w0 (old w0 F0) f_bestA f_bestC f.best) (fg : Nat) (hb_f : ElemAt w0 (old w0 F0) (some ⟨fg, 0, none⟩) 0 [iv f.g.W, iv f.g.H, iv f.g.Layers, .slice f_g_BlockedA f.g.Blocked.length f_g_BlockedC, iv f.c.Step, iv f.c.Via, iv f.c.Turn, iv f.c.Against, .slice f_blockedA f.blocked.length f_blockedC, .slice f_bestA f.best.length f_bestC]) (h_g : Nat) (h__lA : Option Addr) (h__lC : Nat) (hs0 : Sat w0 F0 [hbox h_g 99 [.slice h__lA h_.l.length h__lC], hown 102 h__lA h__lC h_.l] w0) (Q : R7Heap → Prop) (h : M_field_spread f h_ e_ Q) :
  Ret Try.prog 74 #[(pn fg 0), (pn h_g 0), .agg #[iv e_.worth.cost, iv e_.worth.cells, iv e_.state]] w0 fun v w' => ∃ (h_1 : R7Heap) (h_1_lA : Option Addr) (h_1_lC : Nat), v = .tuple #[] ∧ Q h_1 ∧ Sat w0 F0 [hbox h_g 99 [.slice h_1_lA h_1.l.length h_1_lC], hown 102 h_1_lA h_1_lC h_1.l] w' := by
 refine fn_enter Try.func74 rfl Try.ntmps74 rfl (fs := [(0, (pn fg 0)), (1, (pn h_g 0)), (2, .agg #[iv e_.worth.cost, iv e_.worth.cells, iv e_.state])]) rfl (fun a hf => ?_)
 have hs := hs0
 unfold M_field_spread at h
 refine wp_seq (R.list ?_)
 refine S.box hf hs rfl rfl rfl [iv e_.worth.cost, iv e_.worth.cells, iv e_.state] rfl rfl rfl (fun g1 a w hf hs => ?_)
 refine R.nil (X.then_ (wp_seq ?_))
 refine H.start (S := Sat w0 F0 [hbox g1 102 [iv e_.worth.cost, iv e_.worth.cells, iv e_.state], hbox h_g 99 [.slice h__lA h_.l.length h__lC], hown 102 h__lA h__lC h_.l]) mo ?_
 replace hs := hs.drew
 refine H.v hf hs ((pn fg 0)) 0 rfl rfl (by kernel_rfl) (V.pure rfl) fun a hf => ?_
 refine H.v hf hs ((pn g1 2)) 1 rfl rfl (by kernel_rfl) (V.fieldBox rfl rfl Try.runUnderlying102 rfl Try.sizeOf3 rfl rfl) fun a hf => ?_
 refine H.v hf hs (iv e_.state) 2 rfl rfl (by kernel_rfl) (V.loadBox 0 rfl rfl rfl Try.isAgg3 Try.sizeOf3 rfl rfl) fun a hf => ?_
 refine H.v hf hs (iv (w64 (e_.state.tdiv 3))) 3 rfl rfl (by kernel_rfl) (V.quo rfl rfl rfl (by decide)) fun a hf => ?_
 refine H.v hf hs ((pn g1 2)) 5 rfl rfl (by kernel_rfl) (V.fieldBox rfl rfl Try.runUnderlying102 rfl Try.sizeOf3 rfl rfl) fun a hf => ?_
 refine H.v hf hs (iv e_.state) 6 rfl rfl (by kernel_rfl) (V.loadBox 0 rfl rfl rfl Try.isAgg3 Try.sizeOf3 rfl rfl) fun a hf => ?_
 refine H.v hf hs (iv (e_.state.tmod 3)) 7 rfl rfl (by kernel_rfl) (V.rem rfl rfl rfl (by decide)) fun a hf => ?_
 refine H.each2 (i0 := 4) (i1 := 8) rfl rfl (by kernel_rfl) ?_ ?_
 ·refine S.call hf rfl rfl rfl (call_fn (vs := [(pn fg 0), iv (w64 (e_.state.tdiv 3))]) rfl rfl rfl Try.call60) (R_field_cell f (w64 (e_.state.tdiv 3)) _ f_g_BlockedA f_g_BlockedC ((Ag.args _ _ _).view hv_f_g_Blocked hs) f_blockedA f_blockedC ((Ag.args _ _ _).view hv_f_blocked hs) f_bestA f_bestC ((Ag.args _ _ _).view hv_f_best hs) fg ((Ag.args _ _ _).elem hb_f hs) _ h) (fun v a w' hf hr => ?_)
  obtain ⟨y1, rfl, h2, hs2⟩ := hr
  replace h := h2; replace hs := hs.call hs2; clear h2 hs2
  refine R.nil (X.then_ ?_)
  refine ⟨hs, ?_⟩
  refine H.one (i := 8) rfl (by kernel_rfl) ?_
  refine S.alloc hf hs rfl rfl rfl [iv 0, iv 0, iv 0] rfl Try.zeroValue28 rfl (fun g2 a w hf hs => ?_)
  refine R.nil (X.then_ ?_)
  refine ⟨(hs.mask [false, true, true, true]), ?_⟩
  refine H.one (i := 9) rfl (by kernel_rfl) ?_
  refine S.storeBox 0 hf hs rfl rfl [iv y1.X, iv y1.Y, iv y1.Layer] [iv y1.X, iv y1.Y, iv y1.Layer] rfl rfl rfl rfl rfl Try.sizeOf28 rfl rfl rfl rfl (fun a w hf hs => ?_)
  refine R.nil (X.then_ ?_)
  refine ⟨(hs.mask [false, true, true, true]), ?_⟩
  refine H.val hf (hs.mask [false, true, true, true]) (v := iv (e_.state.tmod 3)) (i := 10) rfl rfl rfl rfl (by kernel_rfl) (by kernel_rfl) (by kernel_rfl) (V.pure rfl) (fun a hf => ?_)
  refine H.done (by kernel_rfl) ?_
  refine X.then_ (wp_seq (R.list ?_))
  refine S.p hf hs ((pn fg 0)) rfl rfl fun a hf => ?_
  refine S.v hf hs (.agg #[iv y1.X, iv y1.Y, iv y1.Layer]) rfl (V.loadBox 0 rfl rfl rfl Try.isAgg28 Try.sizeOf28 rfl rfl) fun a hf => ?_
  refine S.call hf rfl rfl rfl (call_fn (vs := [(pn fg 0), .agg #[iv y1.X, iv y1.Y, iv y1.Layer]]) rfl rfl rfl Try.call78) (R_field_neighbours f y1 _ f_g_BlockedA f_g_BlockedC ((Ag.args _ _ _).view hv_f_g_Blocked hs) f_blockedA f_blockedC ((Ag.args _ _ _).view hv_f_blocked hs) f_bestA f_bestC ((Ag.args _ _ _).view hv_f_best hs) fg ((Ag.args _ _ _).elem hb_f hs) _ h) (fun v a w' hf hr => ?_)
  obtain ⟨y2, y2A, y2C, rfl, h2, hs2⟩ := hr
  replace h := h2; replace hs := hs.call hs2; clear h2 hs2
  refine S.v hf hs (iv (y2.length : Int)) rfl (V.len rfl rfl Try.runUnderlying22) fun a hf => ?_
  refine S.p hf hs (iv 0) rfl rfl fun a hf => ?_
  refine R.nil (X.then_ (wp_block ?_))
  replace hs := hs.front 1 rfl
  replace hs := hs.front 2 rfl
  replace hs := hs.front 4 rfl
  replace hs := hs.front 4 rfl
  have hlenk1 := (hs.ownView 4 rfl).len64
  refine C.range (fun (ll : List Cell) a w => ∃ (k1 : Nat) (l2 : List R7Entry) (l2A : Option Addr) (l2C : Nat), y2.drop k1 = ll ∧ k1 + ll.length = y2.length ∧ forIn' (fun k x (s : List R7Entry) next => M_field_spread_L1 f e_ y1 k x s (fun l2 => next l2)) (fun (s : List R7Entry) => (fun (l2 : List R7Entry) => Q (⟨l2⟩ : R7Heap)) s) ll k1 l2 ∧ FrOk 79 [(24, iv (k1 : Int)), (0, (pn fg 0)), (1, (pn h_g 0)), (5, (pn g1 0)), (6, (pn g2 0)), (7, iv (e_.state.tmod 3)), (22, .slice y2A y2.length y2C), (23, iv (y2.length : Int))] a ∧ Sat w0 F0 [hbox h_g 99 [.slice l2A l2.length l2C], hown 102 l2A l2C l2, hbox g1 102 [iv e_.worth.cost, iv e_.worth.cells, iv e_.state], hbox g2 28 [iv y1.X, iv y1.Y, iv y1.Layer], hown 28 y2A y2C y2] w) y2 ⟨0, h_.l, h__lA, h__lC, rfl, Nat.zero_add _, h, ((((((((hf.nil.cons (hf.get 23 _ rfl)).cons (hf.get 22 _ rfl)).cons (hf.get 7 _ rfl)).cons (hf.get 6 _ rfl)).cons (hf.get 5 _ rfl)).cons (hf.get 1 _ rfl)).cons (hf.get 0 _ rfl)).cons (hf.get 24 _ rfl)), hs⟩ ?_
  clear h hf hs
  rintro llk1 a w ⟨k1, l2, l2A, l2C, hlk1, hkk1, h, hf, hs⟩
  cases llk1 with
  | nil =>
   have hc := range_done hkk1
   replace h : (fun (l2 : List R7Entry) => Q (⟨l2⟩ : R7Heap)) l2 := h
   refine wp_seq (R.list ?_)
   refine S.v hf hs (.bool false) rfl (V.cmp false rfl rfl rfl rfl hc) fun a hf => ?_
   refine R.nil (X.then_ (wp_seq ?_))
   refine C.no hf rfl ?_
   refine wp_exit (X.then_exit (X.then_exit (X.blk_exit ?_)))
   replace hs := hs.front 1 rfl
   replace hs := hs.front 1 rfl
   replace hs := hs.take 2
   exact L.end0 Try.results74 hf ⟨(⟨l2⟩ : R7Heap), l2A, l2C, rfl, h, hs⟩
  | cons xk1 llk1 =>
   have hltk1 := range_lt hkk1; have hc := range_go hkk1; have hxk1 := range_get hlk1
   obtain ⟨next1, hnext1⟩ : ∃ X : List R7Entry → Prop, X = (fun l2 => forIn' (fun k x (s : List R7Entry) next => M_field_spread_L1 f e_ y1 k x s (fun l2 => next l2)) (fun (s : List R7Entry) => (fun (l2 : List R7Entry) => Q (⟨l2⟩ : R7Heap)) s) llk1 (k1 + 1) l2) := ⟨_, rfl⟩
   replace h : M_field_spread_L1 f e_ y1 k1 xk1 l2 next1 := by rw [hnext1]; exact h
   unfold M_field_spread_L1 at h
   refine wp_seq (R.list ?_)
   refine S.v hf hs (.bool true) rfl (V.cmp true rfl rfl rfl rfl hc) fun a hf => ?_
   refine R.nil (X.then_ (wp_seq ?_))
   refine C.yes hf rfl ?_
   refine wp_skip (X.then_ (wp_seq (wp_block (wp_seq (R.list ?_)))))
   refine S.v hf hs (elemPtr y2A (k1 * 3)) rfl (V.index rfl rfl rfl Try.runUnderlying22 Try.sizeOf28 (hs.ownSome 4 rfl (lt_of_get hxk1)) (Int.natCast_nonneg _) (lt_of_get hxk1) rfl) fun a hf => ?_
   refine S.v hf hs (.agg #[iv xk1.X, iv xk1.Y, iv xk1.Layer]) rfl (V.loadOwn (off := 0) 4 rfl hxk1 rfl rfl rfl Try.isAgg28 Try.sizeOf28 rfl rfl) fun a hf => ?_
   refine S.alloc hf hs rfl rfl rfl [iv 0, iv 0, iv 0] rfl Try.zeroValue28 rfl (fun g3 a w hf hs => ?_)
   refine S.storeBox 0 hf hs rfl rfl [iv xk1.X, iv xk1.Y, iv xk1.Layer] [iv xk1.X, iv xk1.Y, iv xk1.Layer] rfl rfl rfl rfl rfl Try.sizeOf28 rfl rfl rfl rfl (fun a w hf hs => ?_)
   refine R.nil (X.then_ (wp_seq (R.list ?_)))
   refine S.v hf hs (.agg #[iv xk1.X, iv xk1.Y, iv xk1.Layer]) rfl (V.loadBox 0 rfl rfl rfl Try.isAgg28 Try.sizeOf28 rfl rfl) fun a hf => ?_
   refine S.v hf hs (.agg #[iv y1.X, iv y1.Y, iv y1.Layer]) rfl (V.loadBox 4 rfl rfl rfl Try.isAgg28 Try.sizeOf28 rfl rfl) fun a hf => ?_
   refine S.call hf rfl rfl rfl (call_fn (vs := [.agg #[iv xk1.X, iv xk1.Y, iv xk1.Layer], .agg #[iv y1.X, iv y1.Y, iv y1.Layer]]) rfl rfl rfl Try.call79) (R_ref7_along xk1 y1 _  _ h) (fun v a w' hf hr => ?_)
   obtain ⟨y3, rfl, h2, hs2⟩ := hr
   replace h := h2; replace hs := hs.call hs2; clear h2 hs2
   refine S.p hf hs (iv y3) rfl rfl fun a hf => ?_
   refine R.nil (X.then_ (wp_seq (R.list ?_)))
   refine S.p hf hs (iv 0) rfl rfl fun a hf => ?_
   refine R.nil (X.then_ (wp_block ?_))
   replace hs := hs.front 5 rfl
   replace hs := hs.front 1 rfl
   replace hs := hs.front 5 rfl
   replace hs := hs.front 5 rfl
   replace hs := hs.front 5 rfl
   replace hs := hs.front 5 rfl
   obtain ⟨kk, h⟩ := h
   refine C.loop (fun kk a w => ∃ (l4 : List R7Entry) (l4A : Option Addr) (l4C : Nat) (n2 : Int), iterF (fun again (s : List R7Entry × Int) => M_field_spread_L2 f e_ y1 xk1 next1 y3 (fun l4 n2 => again (l4, n2)) s.1 s.2) kk (l4, n2) ∧ FrOk 79 [(0, (pn fg 0)), (1, (pn h_g 0)), (5, (pn g1 0)), (6, (pn g2 0)), (7, iv (e_.state.tmod 3)), (9, (pn g3 0)), (10, iv y3), (22, .slice y2A y2.length y2C), (23, iv (y2.length : Int)), (24, iv (k1 : Int)), (31, iv n2)] a ∧ Sat w0 F0 [hbox h_g 99 [.slice l4A l4.length l4C], hown 102 l4A l4C l4, hbox g1 102 [iv e_.worth.cost, iv e_.worth.cells, iv e_.state], hbox g2 28 [iv y1.X, iv y1.Y, iv y1.Layer], hbox g3 28 [iv xk1.X, iv xk1.Y, iv xk1.Layer], hown 28 y2A y2C y2] w) kk ⟨l2, l2A, l2C, 0, h, (((((((((((hf.nil.cons (hf.get 31 _ rfl)).cons (hf.get 24 _ rfl)).cons (hf.get 23 _ rfl)).cons (hf.get 22 _ rfl)).cons (hf.get 10 _ rfl)).cons (hf.get 9 _ rfl)).cons (hf.get 7 _ rfl)).cons (hf.get 6 _ rfl)).cons (hf.get 5 _ rfl)).cons (hf.get 1 _ rfl)).cons (hf.get 0 _ rfl)), hs⟩ (fun a w ⟨_, _, _, _, h, _, _⟩ => h) ?_
   clear h hf hs
   rintro kk a w ⟨l4, l4A, l4C, n2, h, hf, hs⟩
   obtain ⟨again2, hagain2⟩ : ∃ X : List R7Entry → Int → Prop, X = (fun l4 n2 => iterF (fun again (s : List R7Entry × Int) => M_field_spread_L2 f e_ y1 xk1 next1 y3 (fun l4 n2 => again (l4, n2)) s.1 s.2) kk (l4, n2)) := ⟨_, rfl⟩
   replace h : M_field_spread_L2 f e_ y1 xk1 next1 y3 again2 l4 n2 := by rw [hagain2]; exact h
   unfold M_field_spread_L2 at h
   refine wp_seq (R.list ?_)
   refine S.p hf hs (.bool (decide (n2 < 3))) rfl rfl fun a hf => ?_
   refine R.nil (X.then_ (wp_seq ?_))
   refine C.cond hf (b := decide (n2 < 3)) rfl (fun hc => ?_) (fun hc => ?_)
   ·replace h := h.1 hc
    refine wp_skip (X.then_ (wp_seq (wp_block (wp_seq (R.list ?_)))))
    refine S.p hf hs (iv n2) rfl rfl fun a hf => ?_
    refine S.p hf hs (iv n2) rfl rfl fun a hf => ?_
    refine R.nil (X.then_ (wp_seq (wp_seq ?_)))
    refine C.cut (J := fun a w => ∃ (c1 : Bool), M_field_spread_k3 f e_ y1 xk1 y3 l4 n2 again2 c1 ∧ FrOk 79 [(0, (pn fg 0)), (1, (pn h_g 0)), (5, (pn g1 0)), (6, (pn g2 0)), (7, iv (e_.state.tmod 3)), (9, (pn g3 0)), (10, iv y3), (11, iv n2), (22, .slice y2A y2.length y2C), (23, iv (y2.length : Int)), (24, iv (k1 : Int)), (31, iv n2), (49, .bool c1)] a ∧ Sat w0 F0 [hbox h_g 99 [.slice l4A l4.length l4C], hown 102 l4A l4C l4, hbox g1 102 [iv e_.worth.cost, iv e_.worth.cells, iv e_.state], hbox g2 28 [iv y1.X, iv y1.Y, iv y1.Layer], hbox g3 28 [iv xk1.X, iv xk1.Y, iv xk1.Layer], hown 28 y2A y2C y2] w) ?_ ?_
    ·rintro a w ⟨c1, h, hf, hs⟩
     unfold M_field_spread_k3 at h
     refine C.cond hf (b := c1) rfl (fun hc => ?_) (fun hc => ?_)
     ·replace h := h.1 hc
      refine wp_exit (X.then_exit (X.blk_exit (X.then_ (R.list ?_))))
      refine S.p hf hs (iv (w64 (n2 + 1))) rfl rfl fun a hf => ?_
      refine S.p hf hs (iv (w64 (n2 + 1))) rfl rfl fun a hf => ?_
      refine R.nil (X.then_ ?_)
      exact ⟨l4, l4A, l4C, (w64 (n2 + 1)), (by rw [hagain2] at h; exact h), (((((((((((hf.nil.cons (hf.get 31 _ rfl)).cons (hf.get 24 _ rfl)).cons (hf.get 23 _ rfl)).cons (hf.get 22 _ rfl)).cons (hf.get 10 _ rfl)).cons (hf.get 9 _ rfl)).cons (hf.get 7 _ rfl)).cons (hf.get 6 _ rfl)).cons (hf.get 5 _ rfl)).cons (hf.get 1 _ rfl)).cons (hf.get 0 _ rfl)), hs⟩
     ·replace h := h.2 hc
      refine wp_skip (X.then_ ?_)
      refine H.start (S := Sat w0 F0 [hbox g1 102 [iv e_.worth.cost, iv e_.worth.cells, iv e_.state], hbox g2 28 [iv y1.X, iv y1.Y, iv y1.Layer], hbox g3 28 [iv xk1.X, iv xk1.Y, iv xk1.Layer], hown 28 y2A y2C y2]) mo ?_
      replace hs := hs.drew
      refine H.val hf (hs.mask [false, false, true, true, true, true]) (v := (pn h_g 0)) (i := 0) rfl rfl rfl rfl (by kernel_rfl) (by kernel_rfl) (by kernel_rfl) (V.pure rfl) (fun a hf => ?_)
      refine H.val hf (hs.mask [false, false, true, true, true, true]) (v := (pn g1 0)) (i := 1) rfl rfl rfl rfl (by kernel_rfl) (by kernel_rfl) (by kernel_rfl) (V.fieldBox rfl rfl Try.runUnderlying102 rfl Try.sizeOf60 rfl rfl) (fun a hf => ?_)
      refine H.val hf (hs.mask [false, false, true, true, true, true]) (v := (pn g1 0)) (i := 2) rfl rfl rfl rfl (by kernel_rfl) (by kernel_rfl) (by kernel_rfl) (V.fieldBox rfl rfl Try.runUnderlying60 rfl Try.sizeOf3 rfl rfl) (fun a hf => ?_)
      refine H.val hf (hs.mask [false, false, true, true, true, true]) (v := iv e_.worth.cost) (i := 3) rfl rfl rfl rfl (by kernel_rfl) (by kernel_rfl) (by kernel_rfl) (V.loadBox 0 rfl rfl rfl Try.isAgg3 Try.sizeOf3 rfl rfl) (fun a hf => ?_)
      refine H.val hf (hs.mask [false, false, true, true, true, true]) (v := (pn fg 0)) (i := 4) rfl rfl rfl rfl (by kernel_rfl) (by kernel_rfl) (by kernel_rfl) (V.pure rfl) (fun a hf => ?_)
      refine H.val hf (hs.mask [false, false, true, true, true, true]) (v := (pn fg 0)) (i := 5) rfl rfl rfl rfl (by kernel_rfl) (by kernel_rfl) (by kernel_rfl) (V.pure rfl) (fun a hf => ?_)
      refine H.val hf (hs.mask [false, false, true, true, true, true]) (v := (pn fg 4)) (i := 6) rfl rfl rfl rfl (by kernel_rfl) (by kernel_rfl) (by kernel_rfl) (V.fieldBox rfl rfl Try.runUnderlying72 rfl Try.sizeOf26 rfl rfl) (fun a hf => ?_)
      refine H.val hf (hs.mask [false, false, true, true, true, true]) (v := .agg #[iv f.c.Step, iv f.c.Via, iv f.c.Turn, iv f.c.Against]) (i := 7) rfl rfl rfl rfl (by kernel_rfl) (by kernel_rfl) (by kernel_rfl) (V.loadAt0 (off := 4) (Ag.args _ _ _) hb_f rfl rfl Try.isAgg26 Try.sizeOf26 rfl rfl) (fun a hf => ?_)
      refine H.val hf (hs.mask [false, false, true, true, true, true]) (v := (pn g2 2)) (i := 8) rfl rfl rfl rfl (by kernel_rfl) (by kernel_rfl) (by kernel_rfl) (V.fieldBox rfl rfl Try.runUnderlying28 rfl Try.sizeOf3 rfl rfl) (fun a hf => ?_)
      refine H.val hf (hs.mask [false, false, true, true, true, true]) (v := iv y1.Layer) (i := 9) rfl rfl rfl rfl (by kernel_rfl) (by kernel_rfl) (by kernel_rfl) (V.loadBox 1 rfl rfl rfl Try.isAgg3 Try.sizeOf3 rfl rfl) (fun a hf => ?_)
      refine H.val hf (hs.mask [false, false, true, true, true, true]) (v := iv y3) (i := 10) rfl rfl rfl rfl (by kernel_rfl) (by kernel_rfl) (by kernel_rfl) (V.pure rfl) (fun a hf => ?_)
      refine H.val hf (hs.mask [false, false, true, true, true, true]) (v := iv n2) (i := 11) rfl rfl rfl rfl (by kernel_rfl) (by kernel_rfl) (by kernel_rfl) (V.pure rfl) (fun a hf => ?_)
      refine H.val hf (hs.mask [false, false, true, true, true, true]) (v := (pn g1 0)) (i := 14) rfl rfl rfl rfl (by kernel_rfl) (by kernel_rfl) (by kernel_rfl) (V.fieldBox rfl rfl Try.runUnderlying102 rfl Try.sizeOf60 rfl rfl) (fun a hf => ?_)
      refine H.val hf (hs.mask [false, false, true, true, true, true]) (v := (pn g1 1)) (i := 15) rfl rfl rfl rfl (by kernel_rfl) (by kernel_rfl) (by kernel_rfl) (V.fieldBox rfl rfl Try.runUnderlying60 rfl Try.sizeOf3 rfl rfl) (fun a hf => ?_)
      refine H.val hf (hs.mask [false, false, true, true, true, true]) (v := iv e_.worth.cells) (i := 16) rfl rfl rfl rfl (by kernel_rfl) (by kernel_rfl) (by kernel_rfl) (V.loadBox 0 rfl rfl rfl Try.isAgg3 Try.sizeOf3 rfl rfl) (fun a hf => ?_)
      refine H.val hf (hs.mask [false, false, true, true, true, true]) (v := iv (w64 (e_.worth.cells + 1))) (i := 17) rfl rfl rfl rfl (by kernel_rfl) (by kernel_rfl) (by kernel_rfl) (V.pure rfl) (fun a hf => ?_)
      refine H.val hf (hs.mask [false, false, true, true, true, true]) (v := (pn fg 0)) (i := 19) rfl rfl rfl rfl (by kernel_rfl) (by kernel_rfl) (by kernel_rfl) (V.pure rfl) (fun a hf => ?_)
      refine H.val hf (hs.mask [false, false, true, true, true, true]) (v := .agg #[iv xk1.X, iv xk1.Y, iv xk1.Layer]) (i := 20) rfl rfl rfl rfl (by kernel_rfl) (by kernel_rfl) (by kernel_rfl) (V.loadBox 2 rfl rfl rfl Try.isAgg28 Try.sizeOf28 rfl rfl) (fun a hf => ?_)
      refine H.val hf (hs.mask [false, false, true, true, true, true]) (v := iv n2) (i := 23) rfl rfl rfl rfl (by kernel_rfl) (by kernel_rfl) (by kernel_rfl) (V.pure rfl) (fun a hf => ?_)
      refine H.one (i := 12) rfl (by kernel_rfl) ?_
      refine S.call hf rfl rfl rfl (call_fn (vs := [.agg #[iv f.c.Step, iv f.c.Via, iv f.c.Turn, iv f.c.Against], iv y1.Layer, iv y3, iv n2]) rfl rfl rfl Try.call80) (R_ref7_stepCost f.c y1.Layer y3 n2 _  _ h) (fun v a w' hf hr => ?_)
      obtain ⟨y4, rfl, h2, hs2⟩ := hr
      replace h := h2; replace hs := hs.call hs2; clear h2 hs2
      refine R.nil (X.then_ ?_)
      refine ⟨(hs.mask [false, false, true, true, true, true]), ?_⟩
      refine H.val hf (hs.mask [false, false, true, true, true, true]) (v := iv (w64 (e_.worth.cost + y4))) (i := 13) rfl rfl rfl rfl (by kernel_rfl) (by kernel_rfl) (by kernel_rfl) (V.pure rfl) (fun a hf => ?_)
      refine H.val hf (hs.mask [false, false, true, true, true, true]) (v := .agg #[iv (w64 (e_.worth.cost + y4)), iv (w64 (e_.worth.cells + 1))]) (i := 18) rfl rfl rfl rfl (by kernel_rfl) (by kernel_rfl) (by kernel_rfl) (V.build (places := #[(0, 1), (1, 1)]) rfl Try.zeroValue60 Try.runUnderlying60 (by intro w; simp [Try.sizeOf3]) rfl rfl) (fun a hf => ?_)
      refine H.one (i := 21) rfl (by kernel_rfl) ?_
      refine S.call hf rfl rfl rfl (call_fn (vs := [(pn fg 0), .agg #[iv xk1.X, iv xk1.Y, iv xk1.Layer]]) rfl rfl rfl Try.call63) (R_field_at f xk1 _ f_g_BlockedA f_g_BlockedC ((Ag.args _ _ _).view hv_f_g_Blocked hs) f_blockedA f_blockedC ((Ag.args _ _ _).view hv_f_blocked hs) f_bestA f_bestC ((Ag.args _ _ _).view hv_f_best hs) fg ((Ag.args _ _ _).elem hb_f hs) _ h) (fun v a w' hf hr => ?_)
      obtain ⟨y5, rfl, h2, hs2⟩ := hr
      replace h := h2; replace hs := hs.call hs2; clear h2 hs2
      refine R.nil (X.then_ ?_)
      refine ⟨(hs.mask [false, false, true, true, true, true]), ?_⟩
      refine H.val hf (hs.mask [false, false, true, true, true, true]) (v := iv (w64 (3 * y5))) (i := 22) rfl rfl rfl rfl (by kernel_rfl) (by kernel_rfl) (by kernel_rfl) (V.pure rfl) (fun a hf => ?_)
      refine H.val hf (hs.mask [false, false, true, true, true, true]) (v := iv (w64 ((w64 (3 * y5)) + n2))) (i := 24) rfl rfl rfl rfl (by kernel_rfl) (by kernel_rfl) (by kernel_rfl) (V.pure rfl) (fun a hf => ?_)
      refine H.val hf (hs.mask [false, false, true, true, true, true]) (v := .agg #[iv (w64 (e_.worth.cost + y4)), iv (w64 (e_.worth.cells + 1)), iv (w64 ((w64 (3 * y5)) + n2))]) (i := 25) rfl rfl rfl rfl (by kernel_rfl) (by kernel_rfl) (by kernel_rfl) (V.build (places := #[(0, 2), (2, 1)]) rfl Try.zeroValue102 Try.runUnderlying102 (by intro w; simp [Try.sizeOf3, Try.sizeOf60]) rfl rfl) (fun a hf => ?_)
      refine H.one (i := 26) rfl (by kernel_rfl) ?_
      replace hs := hs.front 1 rfl
      replace hs := hs.front 1 rfl
      obtain ⟨F1, hsF, hback, hold, hrest⟩ := Sat.callOwns [hbox h_g 99 [.slice l4A l4.length l4C], hown 102 l4A l4C l4] (σ := [hbox g1 102 [iv e_.worth.cost, iv e_.worth.cells, iv e_.state], hbox g2 28 [iv y1.X, iv y1.Y, iv y1.Layer], hbox g3 28 [iv xk1.X, iv xk1.Y, iv xk1.Layer], hown 28 y2A y2C y2]) hs
      refine S.call hf rfl rfl rfl (call_fn (vs := [(pn h_g 0), .agg #[iv (w64 (e_.worth.cost + y4)), iv (w64 (e_.worth.cells + 1)), iv (w64 ((w64 (3 * y5)) + n2))]]) rfl rfl rfl Try.call72) (R_heap7_push (⟨l4⟩ : R7Heap) (⟨(⟨w64 (e_.worth.cost + y4), w64 (e_.worth.cells + 1)⟩ : R7Worth), w64 ((w64 (3 * y5)) + n2)⟩ : R7Entry) _ _ h_g l4A l4C hsF _ h) (fun v a w' hf hr => ?_)
      obtain ⟨z1, z1_lA, z1_lC, rfl, h2, hs2⟩ := hr
      replace h := h2; replace hs := hback _ _ hs2; clear h2 hs2 hback hold hrest hsF
      refine R.nil (X.then_ ?_)
      refine ⟨(hs.mask [false, false, true, true, true, true]), ?_⟩
      refine H.done (by kernel_rfl) ?_
      refine X.blk (X.then_ (R.list ?_))
      refine S.p hf hs (iv (w64 (n2 + 1))) rfl rfl fun a hf => ?_
      refine S.p hf hs (iv (w64 (n2 + 1))) rfl rfl fun a hf => ?_
      refine R.nil (X.then_ ?_)
      exact ⟨z1.l, z1_lA, z1_lC, (w64 (n2 + 1)), (by rw [hagain2] at h; exact h), (((((((((((hf.nil.cons (hf.get 31 _ rfl)).cons (hf.get 24 _ rfl)).cons (hf.get 23 _ rfl)).cons (hf.get 22 _ rfl)).cons (hf.get 10 _ rfl)).cons (hf.get 9 _ rfl)).cons (hf.get 7 _ rfl)).cons (hf.get 6 _ rfl)).cons (hf.get 5 _ rfl)).cons (hf.get 1 _ rfl)).cons (hf.get 0 _ rfl)), hs⟩
    ·skip
     refine R.list ?_
     refine S.p hf hs (iv y3) rfl rfl fun a hf => ?_
     refine S.p hf hs (.bool (y3 == 3)) rfl rfl fun a hf => ?_
     refine S.split hf hs (b := y3 == 3) rfl rfl rfl (V.pure rfl) (fun hc a hf => ?_) (fun hc a hf => ?_)
     ·replace h := h.1 hc
      refine S.p hf hs (iv n2) rfl rfl fun a hf => ?_
      refine S.p hf hs (iv (e_.state.tmod 3)) rfl rfl fun a hf => ?_
      refine S.p hf hs (.bool (n2 != (e_.state.tmod 3))) rfl rfl fun a hf => ?_
      refine S.p hf hs (.bool (n2 != (e_.state.tmod 3))) rfl rfl fun a hf => ?_
      refine S.split hf hs (b := n2 != (e_.state.tmod 3)) rfl rfl rfl (V.pure rfl) (fun hc a hf => ?_) (fun hc a hf => ?_)
      ·replace h := h.1 hc
       refine S.k hf rfl fun a hf => ?_
       refine S.k hf rfl fun a hf => ?_
       refine S.k hf rfl fun a hf => ?_
       refine S.k hf rfl fun a hf => ?_
       refine S.k hf rfl fun a hf => ?_
       refine S.k hf rfl fun a hf => ?_
       refine S.k hf rfl fun a hf => ?_
       refine S.p hf hs (.bool true) rfl rfl fun a hf => ?_
       refine R.nil (X.then_ ?_)
       exact ⟨true, h, (((((((((((((hf.nil.cons (hf.get 49 _ rfl)).cons (hf.get 31 _ rfl)).cons (hf.get 24 _ rfl)).cons (hf.get 23 _ rfl)).cons (hf.get 22 _ rfl)).cons (hf.get 11 _ rfl)).cons (hf.get 10 _ rfl)).cons (hf.get 9 _ rfl)).cons (hf.get 7 _ rfl)).cons (hf.get 6 _ rfl)).cons (hf.get 5 _ rfl)).cons (hf.get 1 _ rfl)).cons (hf.get 0 _ rfl)), hs⟩
      ·replace h := h.2 hc
       refine S.p hf hs (iv y3) rfl rfl fun a hf => ?_
       refine S.p hf hs (.bool (y3 != 3)) rfl rfl fun a hf => ?_
       refine S.split hf hs (b := y3 != 3) rfl rfl rfl (V.pure rfl) (fun hc a hf => ?_) (fun hc a hf => ?_)
       ·replace h := h.1 hc
        refine S.p hf hs (iv y3) rfl rfl fun a hf => ?_
        refine S.p hf hs (iv (e_.state.tmod 3)) rfl rfl fun a hf => ?_
        refine S.p hf hs (.bool (y3 != (e_.state.tmod 3))) rfl rfl fun a hf => ?_
        refine S.p hf hs (.bool (y3 != (e_.state.tmod 3))) rfl rfl fun a hf => ?_
        refine S.p hf hs (.bool (y3 != (e_.state.tmod 3))) rfl rfl fun a hf => ?_
        refine R.nil (X.then_ ?_)
        exact ⟨(y3 != (e_.state.tmod 3)), h, (((((((((((((hf.nil.cons (hf.get 49 _ rfl)).cons (hf.get 31 _ rfl)).cons (hf.get 24 _ rfl)).cons (hf.get 23 _ rfl)).cons (hf.get 22 _ rfl)).cons (hf.get 11 _ rfl)).cons (hf.get 10 _ rfl)).cons (hf.get 9 _ rfl)).cons (hf.get 7 _ rfl)).cons (hf.get 6 _ rfl)).cons (hf.get 5 _ rfl)).cons (hf.get 1 _ rfl)).cons (hf.get 0 _ rfl)), hs⟩
       ·replace h := h.2 hc
        refine S.k hf rfl fun a hf => ?_
        refine S.k hf rfl fun a hf => ?_
        refine S.k hf rfl fun a hf => ?_
        refine S.p hf hs (.bool false) rfl rfl fun a hf => ?_
        refine S.p hf hs (.bool false) rfl rfl fun a hf => ?_
        refine R.nil (X.then_ ?_)
        exact ⟨false, h, (((((((((((((hf.nil.cons (hf.get 49 _ rfl)).cons (hf.get 31 _ rfl)).cons (hf.get 24 _ rfl)).cons (hf.get 23 _ rfl)).cons (hf.get 22 _ rfl)).cons (hf.get 11 _ rfl)).cons (hf.get 10 _ rfl)).cons (hf.get 9 _ rfl)).cons (hf.get 7 _ rfl)).cons (hf.get 6 _ rfl)).cons (hf.get 5 _ rfl)).cons (hf.get 1 _ rfl)).cons (hf.get 0 _ rfl)), hs⟩
     ·replace h := h.2 hc
      refine S.k hf rfl fun a hf => ?_
      refine S.k hf rfl fun a hf => ?_
      refine S.k hf rfl fun a hf => ?_
      refine S.p hf hs (.bool false) rfl rfl fun a hf => ?_
      refine S.p hf hs (.bool false) rfl rfl fun a hf => ?_
      refine S.p hf hs (iv y3) rfl rfl fun a hf => ?_
      refine S.p hf hs (.bool (y3 != 3)) rfl rfl fun a hf => ?_
      refine S.split hf hs (b := y3 != 3) rfl rfl rfl (V.pure rfl) (fun hc a hf => ?_) (fun hc a hf => ?_)
      ·replace h := h.1 hc
       refine S.p hf hs (iv y3) rfl rfl fun a hf => ?_
       refine S.p hf hs (iv (e_.state.tmod 3)) rfl rfl fun a hf => ?_
       refine S.p hf hs (.bool (y3 != (e_.state.tmod 3))) rfl rfl fun a hf => ?_
       refine S.p hf hs (.bool (y3 != (e_.state.tmod 3))) rfl rfl fun a hf => ?_
       refine S.p hf hs (.bool (y3 != (e_.state.tmod 3))) rfl rfl fun a hf => ?_
       refine R.nil (X.then_ ?_)
       exact ⟨(y3 != (e_.state.tmod 3)), h, (((((((((((((hf.nil.cons (hf.get 49 _ rfl)).cons (hf.get 31 _ rfl)).cons (hf.get 24 _ rfl)).cons (hf.get 23 _ rfl)).cons (hf.get 22 _ rfl)).cons (hf.get 11 _ rfl)).cons (hf.get 10 _ rfl)).cons (hf.get 9 _ rfl)).cons (hf.get 7 _ rfl)).cons (hf.get 6 _ rfl)).cons (hf.get 5 _ rfl)).cons (hf.get 1 _ rfl)).cons (hf.get 0 _ rfl)), hs⟩
      ·replace h := h.2 hc
       refine S.k hf rfl fun a hf => ?_
       refine S.k hf rfl fun a hf => ?_
       refine S.k hf rfl fun a hf => ?_
       refine S.p hf hs (.bool false) rfl rfl fun a hf => ?_
       refine S.p hf hs (.bool false) rfl rfl fun a hf => ?_
       refine R.nil (X.then_ ?_)
       exact ⟨false, h, (((((((((((((hf.nil.cons (hf.get 49 _ rfl)).cons (hf.get 31 _ rfl)).cons (hf.get 24 _ rfl)).cons (hf.get 23 _ rfl)).cons (hf.get 22 _ rfl)).cons (hf.get 11 _ rfl)).cons (hf.get 10 _ rfl)).cons (hf.get 9 _ rfl)).cons (hf.get 7 _ rfl)).cons (hf.get 6 _ rfl)).cons (hf.get 5 _ rfl)).cons (hf.get 1 _ rfl)).cons (hf.get 0 _ rfl)), hs⟩
   ·replace h := h.2 hc
    refine wp_exit (X.then_exit (X.then_exit (X.blk_exit (X.blk (X.then_ (R.list ?_))))))
    refine S.v hf hs (iv ((k1 + 1 : Nat) : Int)) rfl (V.incr rfl rfl rfl hltk1 hlenk1) fun a hf => ?_
    refine S.p hf hs (iv ((k1 + 1 : Nat) : Int)) rfl rfl fun a hf => ?_
    refine R.nil (X.then_ ?_)
    replace hs := hs.front 5 rfl
    replace hs := hs.front 4 rfl
    replace hs := hs.front 4 rfl
    replace hs := hs.front 4 rfl
    replace hs := hs.front 4 rfl
    replace hs := hs.take 5
    exact ⟨xk1, llk1, rfl, k1 + 1, l4, l4A, l4C, range_drop hlk1, range_len hkk1, (by rw [hnext1] at h; exact h), ((((((((hf.nil.cons (hf.get 23 _ rfl)).cons (hf.get 22 _ rfl)).cons (hf.get 7 _ rfl)).cons (hf.get 6 _ rfl)).cons (hf.get 5 _ rfl)).cons (hf.get 1 _ rfl)).cons (hf.get 0 _ rfl)).cons (hf.get 24 _ rfl)), hs⟩
 ·refine S.alloc hf hs rfl rfl rfl [iv 0, iv 0, iv 0] rfl Try.zeroValue28 rfl (fun g2 a w hf hs => ?_)
  refine R.nil (X.then_ ?_)
  refine ⟨(hs.mask [false, true, true, true]), ?_⟩
  refine H.one (i := 4) rfl (by kernel_rfl) ?_
  refine S.call hf rfl rfl rfl (call_fn (vs := [(pn fg 0), iv (w64 (e_.state.tdiv 3))]) rfl rfl rfl Try.call60) (R_field_cell f (w64 (e_.state.tdiv 3)) _ f_g_BlockedA f_g_BlockedC ((Ag.args _ _ _).view hv_f_g_Blocked hs) f_blockedA f_blockedC ((Ag.args _ _ _).view hv_f_blocked hs) f_bestA f_bestC ((Ag.args _ _ _).view hv_f_best hs) fg ((Ag.args _ _ _).elem hb_f hs) _ h) (fun v a w' hf hr => ?_)
  obtain ⟨y1, rfl, h2, hs2⟩ := hr
  replace h := h2; replace hs := hs.call hs2; clear h2 hs2
  refine R.nil (X.then_ ?_)
  refine ⟨(hs.mask [false, true, true, true]), ?_⟩
  refine H.one (i := 9) rfl (by kernel_rfl) ?_
  refine S.storeBox 0 hf hs rfl rfl [iv y1.X, iv y1.Y, iv y1.Layer] [iv y1.X, iv y1.Y, iv y1.Layer] rfl rfl rfl rfl rfl Try.sizeOf28 rfl rfl rfl rfl (fun a w hf hs => ?_)
  refine R.nil (X.then_ ?_)
  refine ⟨(hs.mask [false, true, true, true]), ?_⟩
  refine H.val hf (hs.mask [false, true, true, true]) (v := iv (e_.state.tmod 3)) (i := 10) rfl rfl rfl rfl (by kernel_rfl) (by kernel_rfl) (by kernel_rfl) (V.pure rfl) (fun a hf => ?_)
  refine H.done (by kernel_rfl) ?_
  refine X.then_ (wp_seq (R.list ?_))
  refine S.p hf hs ((pn fg 0)) rfl rfl fun a hf => ?_
  refine S.v hf hs (.agg #[iv y1.X, iv y1.Y, iv y1.Layer]) rfl (V.loadBox 0 rfl rfl rfl Try.isAgg28 Try.sizeOf28 rfl rfl) fun a hf => ?_
  refine S.call hf rfl rfl rfl (call_fn (vs := [(pn fg 0), .agg #[iv y1.X, iv y1.Y, iv y1.Layer]]) rfl rfl rfl Try.call78) (R_field_neighbours f y1 _ f_g_BlockedA f_g_BlockedC ((Ag.args _ _ _).view hv_f_g_Blocked hs) f_blockedA f_blockedC ((Ag.args _ _ _).view hv_f_blocked hs) f_bestA f_bestC ((Ag.args _ _ _).view hv_f_best hs) fg ((Ag.args _ _ _).elem hb_f hs) _ h) (fun v a w' hf hr => ?_)
  obtain ⟨y2, y2A, y2C, rfl, h2, hs2⟩ := hr
  replace h := h2; replace hs := hs.call hs2; clear h2 hs2
  refine S.v hf hs (iv (y2.length : Int)) rfl (V.len rfl rfl Try.runUnderlying22) fun a hf => ?_
  refine S.p hf hs (iv 0) rfl rfl fun a hf => ?_
  refine R.nil (X.then_ (wp_block ?_))
  replace hs := hs.front 1 rfl
  replace hs := hs.front 2 rfl
  replace hs := hs.front 4 rfl
  replace hs := hs.front 4 rfl
  have hlenk1 := (hs.ownView 4 rfl).len64
  refine C.range (fun (ll : List Cell) a w => ∃ (k1 : Nat) (l2 : List R7Entry) (l2A : Option Addr) (l2C : Nat), y2.drop k1 = ll ∧ k1 + ll.length = y2.length ∧ forIn' (fun k x (s : List R7Entry) next => M_field_spread_L1 f e_ y1 k x s (fun l2 => next l2)) (fun (s : List R7Entry) => (fun (l2 : List R7Entry) => Q (⟨l2⟩ : R7Heap)) s) ll k1 l2 ∧ FrOk 79 [(24, iv (k1 : Int)), (0, (pn fg 0)), (1, (pn h_g 0)), (5, (pn g1 0)), (6, (pn g2 0)), (7, iv (e_.state.tmod 3)), (22, .slice y2A y2.length y2C), (23, iv (y2.length : Int))] a ∧ Sat w0 F0 [hbox h_g 99 [.slice l2A l2.length l2C], hown 102 l2A l2C l2, hbox g1 102 [iv e_.worth.cost, iv e_.worth.cells, iv e_.state], hbox g2 28 [iv y1.X, iv y1.Y, iv y1.Layer], hown 28 y2A y2C y2] w) y2 ⟨0, h_.l, h__lA, h__lC, rfl, Nat.zero_add _, h, ((((((((hf.nil.cons (hf.get 23 _ rfl)).cons (hf.get 22 _ rfl)).cons (hf.get 7 _ rfl)).cons (hf.get 6 _ rfl)).cons (hf.get 5 _ rfl)).cons (hf.get 1 _ rfl)).cons (hf.get 0 _ rfl)).cons (hf.get 24 _ rfl)), hs⟩ ?_
  clear h hf hs
  rintro llk1 a w ⟨k1, l2, l2A, l2C, hlk1, hkk1, h, hf, hs⟩
  cases llk1 with
  | nil =>
   have hc := range_done hkk1
   replace h : (fun (l2 : List R7Entry) => Q (⟨l2⟩ : R7Heap)) l2 := h
   refine wp_seq (R.list ?_)
   refine S.v hf hs (.bool false) rfl (V.cmp false rfl rfl rfl rfl hc) fun a hf => ?_
   refine R.nil (X.then_ (wp_seq ?_))
   refine C.no hf rfl ?_
   refine wp_exit (X.then_exit (X.then_exit (X.blk_exit ?_)))
   replace hs := hs.front 1 rfl
   replace hs := hs.front 1 rfl
   replace hs := hs.take 2
   exact L.end0 Try.results74 hf ⟨(⟨l2⟩ : R7Heap), l2A, l2C, rfl, h, hs⟩
  | cons xk1 llk1 =>
   have hltk1 := range_lt hkk1; have hc := range_go hkk1; have hxk1 := range_get hlk1
   obtain ⟨next1, hnext1⟩ : ∃ X : List R7Entry → Prop, X = (fun l2 => forIn' (fun k x (s : List R7Entry) next => M_field_spread_L1 f e_ y1 k x s (fun l2 => next l2)) (fun (s : List R7Entry) => (fun (l2 : List R7Entry) => Q (⟨l2⟩ : R7Heap)) s) llk1 (k1 + 1) l2) := ⟨_, rfl⟩
   replace h : M_field_spread_L1 f e_ y1 k1 xk1 l2 next1 := by rw [hnext1]; exact h
   unfold M_field_spread_L1 at h
   refine wp_seq (R.list ?_)
   refine S.v hf hs (.bool true) rfl (V.cmp true rfl rfl rfl rfl hc) fun a hf => ?_
   refine R.nil (X.then_ (wp_seq ?_))
   refine C.yes hf rfl ?_
   refine wp_skip (X.then_ (wp_seq (wp_block (wp_seq (R.list ?_)))))
   refine S.v hf hs (elemPtr y2A (k1 * 3)) rfl (V.index rfl rfl rfl Try.runUnderlying22 Try.sizeOf28 (hs.ownSome 4 rfl (lt_of_get hxk1)) (Int.natCast_nonneg _) (lt_of_get hxk1) rfl) fun a hf => ?_
   refine S.v hf hs (.agg #[iv xk1.X, iv xk1.Y, iv xk1.Layer]) rfl (V.loadOwn (off := 0) 4 rfl hxk1 rfl rfl rfl Try.isAgg28 Try.sizeOf28 rfl rfl) fun a hf => ?_
   refine S.alloc hf hs rfl rfl rfl [iv 0, iv 0, iv 0] rfl Try.zeroValue28 rfl (fun g3 a w hf hs => ?_)
   refine S.storeBox 0 hf hs rfl rfl [iv xk1.X, iv xk1.Y, iv xk1.Layer] [iv xk1.X, iv xk1.Y, iv xk1.Layer] rfl rfl rfl rfl rfl Try.sizeOf28 rfl rfl rfl rfl (fun a w hf hs => ?_)
   refine R.nil (X.then_ (wp_seq (R.list ?_)))
   refine S.v hf hs (.agg #[iv xk1.X, iv xk1.Y, iv xk1.Layer]) rfl (V.loadBox 0 rfl rfl rfl Try.isAgg28 Try.sizeOf28 rfl rfl) fun a hf => ?_
   refine S.v hf hs (.agg #[iv y1.X, iv y1.Y, iv y1.Layer]) rfl (V.loadBox 4 rfl rfl rfl Try.isAgg28 Try.sizeOf28 rfl rfl) fun a hf => ?_
   refine S.call hf rfl rfl rfl (call_fn (vs := [.agg #[iv xk1.X, iv xk1.Y, iv xk1.Layer], .agg #[iv y1.X, iv y1.Y, iv y1.Layer]]) rfl rfl rfl Try.call79) (R_ref7_along xk1 y1 _  _ h) (fun v a w' hf hr => ?_)
   obtain ⟨y3, rfl, h2, hs2⟩ := hr
   replace h := h2; replace hs := hs.call hs2; clear h2 hs2
   refine S.p hf hs (iv y3) rfl rfl fun a hf => ?_
   refine R.nil (X.then_ (wp_seq (R.list ?_)))
   refine S.p hf hs (iv 0) rfl rfl fun a hf => ?_
   refine R.nil (X.then_ (wp_block ?_))
   replace hs := hs.front 5 rfl
   replace hs := hs.front 1 rfl
   replace hs := hs.front 5 rfl
   replace hs := hs.front 5 rfl
   replace hs := hs.front 5 rfl
   replace hs := hs.front 5 rfl
   obtain ⟨kk, h⟩ := h
   refine C.loop (fun kk a w => ∃ (l4 : List R7Entry) (l4A : Option Addr) (l4C : Nat) (n2 : Int), iterF (fun again (s : List R7Entry × Int) => M_field_spread_L2 f e_ y1 xk1 next1 y3 (fun l4 n2 => again (l4, n2)) s.1 s.2) kk (l4, n2) ∧ FrOk 79 [(0, (pn fg 0)), (1, (pn h_g 0)), (5, (pn g1 0)), (6, (pn g2 0)), (7, iv (e_.state.tmod 3)), (9, (pn g3 0)), (10, iv y3), (22, .slice y2A y2.length y2C), (23, iv (y2.length : Int)), (24, iv (k1 : Int)), (31, iv n2)] a ∧ Sat w0 F0 [hbox h_g 99 [.slice l4A l4.length l4C], hown 102 l4A l4C l4, hbox g1 102 [iv e_.worth.cost, iv e_.worth.cells, iv e_.state], hbox g2 28 [iv y1.X, iv y1.Y, iv y1.Layer], hbox g3 28 [iv xk1.X, iv xk1.Y, iv xk1.Layer], hown 28 y2A y2C y2] w) kk ⟨l2, l2A, l2C, 0, h, (((((((((((hf.nil.cons (hf.get 31 _ rfl)).cons (hf.get 24 _ rfl)).cons (hf.get 23 _ rfl)).cons (hf.get 22 _ rfl)).cons (hf.get 10 _ rfl)).cons (hf.get 9 _ rfl)).cons (hf.get 7 _ rfl)).cons (hf.get 6 _ rfl)).cons (hf.get 5 _ rfl)).cons (hf.get 1 _ rfl)).cons (hf.get 0 _ rfl)), hs⟩ (fun a w ⟨_, _, _, _, h, _, _⟩ => h) ?_
   clear h hf hs
   rintro kk a w ⟨l4, l4A, l4C, n2, h, hf, hs⟩
   obtain ⟨again2, hagain2⟩ : ∃ X : List R7Entry → Int → Prop, X = (fun l4 n2 => iterF (fun again (s : List R7Entry × Int) => M_field_spread_L2 f e_ y1 xk1 next1 y3 (fun l4 n2 => again (l4, n2)) s.1 s.2) kk (l4, n2)) := ⟨_, rfl⟩
   replace h : M_field_spread_L2 f e_ y1 xk1 next1 y3 again2 l4 n2 := by rw [hagain2]; exact h
   unfold M_field_spread_L2 at h
   refine wp_seq (R.list ?_)
   refine S.p hf hs (.bool (decide (n2 < 3))) rfl rfl fun a hf => ?_
   refine R.nil (X.then_ (wp_seq ?_))
   refine C.cond hf (b := decide (n2 < 3)) rfl (fun hc => ?_) (fun hc => ?_)
   ·replace h := h.1 hc
    refine wp_skip (X.then_ (wp_seq (wp_block (wp_seq (R.list ?_)))))
    refine S.p hf hs (iv n2) rfl rfl fun a hf => ?_
    refine S.p hf hs (iv n2) rfl rfl fun a hf => ?_
    refine R.nil (X.then_ (wp_seq (wp_seq ?_)))
    refine C.cut (J := fun a w => ∃ (c1 : Bool), M_field_spread_k3 f e_ y1 xk1 y3 l4 n2 again2 c1 ∧ FrOk 79 [(0, (pn fg 0)), (1, (pn h_g 0)), (5, (pn g1 0)), (6, (pn g2 0)), (7, iv (e_.state.tmod 3)), (9, (pn g3 0)), (10, iv y3), (11, iv n2), (22, .slice y2A y2.length y2C), (23, iv (y2.length : Int)), (24, iv (k1 : Int)), (31, iv n2), (49, .bool c1)] a ∧ Sat w0 F0 [hbox h_g 99 [.slice l4A l4.length l4C], hown 102 l4A l4C l4, hbox g1 102 [iv e_.worth.cost, iv e_.worth.cells, iv e_.state], hbox g2 28 [iv y1.X, iv y1.Y, iv y1.Layer], hbox g3 28 [iv xk1.X, iv xk1.Y, iv xk1.Layer], hown 28 y2A y2C y2] w) ?_ ?_
    ·rintro a w ⟨c1, h, hf, hs⟩
     unfold M_field_spread_k3 at h
     refine C.cond hf (b := c1) rfl (fun hc => ?_) (fun hc => ?_)
     ·replace h := h.1 hc
      refine wp_exit (X.then_exit (X.blk_exit (X.then_ (R.list ?_))))
      refine S.p hf hs (iv (w64 (n2 + 1))) rfl rfl fun a hf => ?_
      refine S.p hf hs (iv (w64 (n2 + 1))) rfl rfl fun a hf => ?_
      refine R.nil (X.then_ ?_)
      exact ⟨l4, l4A, l4C, (w64 (n2 + 1)), (by rw [hagain2] at h; exact h), (((((((((((hf.nil.cons (hf.get 31 _ rfl)).cons (hf.get 24 _ rfl)).cons (hf.get 23 _ rfl)).cons (hf.get 22 _ rfl)).cons (hf.get 10 _ rfl)).cons (hf.get 9 _ rfl)).cons (hf.get 7 _ rfl)).cons (hf.get 6 _ rfl)).cons (hf.get 5 _ rfl)).cons (hf.get 1 _ rfl)).cons (hf.get 0 _ rfl)), hs⟩
     ·replace h := h.2 hc
      refine wp_skip (X.then_ ?_)
      refine H.start (S := Sat w0 F0 [hbox g1 102 [iv e_.worth.cost, iv e_.worth.cells, iv e_.state], hbox g2 28 [iv y1.X, iv y1.Y, iv y1.Layer], hbox g3 28 [iv xk1.X, iv xk1.Y, iv xk1.Layer], hown 28 y2A y2C y2]) mo ?_
      replace hs := hs.drew
      refine H.val hf (hs.mask [false, false, true, true, true, true]) (v := (pn h_g 0)) (i := 0) rfl rfl rfl rfl (by kernel_rfl) (by kernel_rfl) (by kernel_rfl) (V.pure rfl) (fun a hf => ?_)
      refine H.val hf (hs.mask [false, false, true, true, true, true]) (v := (pn g1 0)) (i := 1) rfl rfl rfl rfl (by kernel_rfl) (by kernel_rfl) (by kernel_rfl) (V.fieldBox rfl rfl Try.runUnderlying102 rfl Try.sizeOf60 rfl rfl) (fun a hf => ?_)
      refine H.val hf (hs.mask [false, false, true, true, true, true]) (v := (pn g1 0)) (i := 2) rfl rfl rfl rfl (by kernel_rfl) (by kernel_rfl) (by kernel_rfl) (V.fieldBox rfl rfl Try.runUnderlying60 rfl Try.sizeOf3 rfl rfl) (fun a hf => ?_)
      refine H.val hf (hs.mask [false, false, true, true, true, true]) (v := iv e_.worth.cost) (i := 3) rfl rfl rfl rfl (by kernel_rfl) (by kernel_rfl) (by kernel_rfl) (V.loadBox 0 rfl rfl rfl Try.isAgg3 Try.sizeOf3 rfl rfl) (fun a hf => ?_)
      refine H.val hf (hs.mask [false, false, true, true, true, true]) (v := (pn fg 0)) (i := 4) rfl rfl rfl rfl (by kernel_rfl) (by kernel_rfl) (by kernel_rfl) (V.pure rfl) (fun a hf => ?_)
      refine H.val hf (hs.mask [false, false, true, true, true, true]) (v := (pn fg 0)) (i := 5) rfl rfl rfl rfl (by kernel_rfl) (by kernel_rfl) (by kernel_rfl) (V.pure rfl) (fun a hf => ?_)
      refine H.val hf (hs.mask [false, false, true, true, true, true]) (v := (pn fg 4)) (i := 6) rfl rfl rfl rfl (by kernel_rfl) (by kernel_rfl) (by kernel_rfl) (V.fieldBox rfl rfl Try.runUnderlying72 rfl Try.sizeOf26 rfl rfl) (fun a hf => ?_)
      refine H.val hf (hs.mask [false, false, true, true, true, true]) (v := .agg #[iv f.c.Step, iv f.c.Via, iv f.c.Turn, iv f.c.Against]) (i := 7) rfl rfl rfl rfl (by kernel_rfl) (by kernel_rfl) (by kernel_rfl) (V.loadAt0 (off := 4) (Ag.args _ _ _) hb_f rfl rfl Try.isAgg26 Try.sizeOf26 rfl rfl) (fun a hf => ?_)
      refine H.val hf (hs.mask [false, false, true, true, true, true]) (v := (pn g2 2)) (i := 8) rfl rfl rfl rfl (by kernel_rfl) (by kernel_rfl) (by kernel_rfl) (V.fieldBox rfl rfl Try.runUnderlying28 rfl Try.sizeOf3 rfl rfl) (fun a hf => ?_)
      refine H.val hf (hs.mask [false, false, true, true, true, true]) (v := iv y1.Layer) (i := 9) rfl rfl rfl rfl (by kernel_rfl) (by kernel_rfl) (by kernel_rfl) (V.loadBox 1 rfl rfl rfl Try.isAgg3 Try.sizeOf3 rfl rfl) (fun a hf => ?_)
      refine H.val hf (hs.mask [false, false, true, true, true, true]) (v := iv y3) (i := 10) rfl rfl rfl rfl (by kernel_rfl) (by kernel_rfl) (by kernel_rfl) (V.pure rfl) (fun a hf => ?_)
      refine H.val hf (hs.mask [false, false, true, true, true, true]) (v := iv n2) (i := 11) rfl rfl rfl rfl (by kernel_rfl) (by kernel_rfl) (by kernel_rfl) (V.pure rfl) (fun a hf => ?_)
      refine H.val hf (hs.mask [false, false, true, true, true, true]) (v := (pn g1 0)) (i := 14) rfl rfl rfl rfl (by kernel_rfl) (by kernel_rfl) (by kernel_rfl) (V.fieldBox rfl rfl Try.runUnderlying102 rfl Try.sizeOf60 rfl rfl) (fun a hf => ?_)
      refine H.val hf (hs.mask [false, false, true, true, true, true]) (v := (pn g1 1)) (i := 15) rfl rfl rfl rfl (by kernel_rfl) (by kernel_rfl) (by kernel_rfl) (V.fieldBox rfl rfl Try.runUnderlying60 rfl Try.sizeOf3 rfl rfl) (fun a hf => ?_)
      refine H.val hf (hs.mask [false, false, true, true, true, true]) (v := iv e_.worth.cells) (i := 16) rfl rfl rfl rfl (by kernel_rfl) (by kernel_rfl) (by kernel_rfl) (V.loadBox 0 rfl rfl rfl Try.isAgg3 Try.sizeOf3 rfl rfl) (fun a hf => ?_)
      refine H.val hf (hs.mask [false, false, true, true, true, true]) (v := iv (w64 (e_.worth.cells + 1))) (i := 17) rfl rfl rfl rfl (by kernel_rfl) (by kernel_rfl) (by kernel_rfl) (V.pure rfl) (fun a hf => ?_)
      refine H.val hf (hs.mask [false, false, true, true, true, true]) (v := (pn fg 0)) (i := 19) rfl rfl rfl rfl (by kernel_rfl) (by kernel_rfl) (by kernel_rfl) (V.pure rfl) (fun a hf => ?_)
      refine H.val hf (hs.mask [false, false, true, true, true, true]) (v := .agg #[iv xk1.X, iv xk1.Y, iv xk1.Layer]) (i := 20) rfl rfl rfl rfl (by kernel_rfl) (by kernel_rfl) (by kernel_rfl) (V.loadBox 2 rfl rfl rfl Try.isAgg28 Try.sizeOf28 rfl rfl) (fun a hf => ?_)
      refine H.val hf (hs.mask [false, false, true, true, true, true]) (v := iv n2) (i := 23) rfl rfl rfl rfl (by kernel_rfl) (by kernel_rfl) (by kernel_rfl) (V.pure rfl) (fun a hf => ?_)
      refine H.one (i := 12) rfl (by kernel_rfl) ?_
      refine S.call hf rfl rfl rfl (call_fn (vs := [.agg #[iv f.c.Step, iv f.c.Via, iv f.c.Turn, iv f.c.Against], iv y1.Layer, iv y3, iv n2]) rfl rfl rfl Try.call80) (R_ref7_stepCost f.c y1.Layer y3 n2 _  _ h) (fun v a w' hf hr => ?_)
      obtain ⟨y4, rfl, h2, hs2⟩ := hr
      replace h := h2; replace hs := hs.call hs2; clear h2 hs2
      refine R.nil (X.then_ ?_)
      refine ⟨(hs.mask [false, false, true, true, true, true]), ?_⟩
      refine H.val hf (hs.mask [false, false, true, true, true, true]) (v := iv (w64 (e_.worth.cost + y4))) (i := 13) rfl rfl rfl rfl (by kernel_rfl) (by kernel_rfl) (by kernel_rfl) (V.pure rfl) (fun a hf => ?_)
      refine H.val hf (hs.mask [false, false, true, true, true, true]) (v := .agg #[iv (w64 (e_.worth.cost + y4)), iv (w64 (e_.worth.cells + 1))]) (i := 18) rfl rfl rfl rfl (by kernel_rfl) (by kernel_rfl) (by kernel_rfl) (V.build (places := #[(0, 1), (1, 1)]) rfl Try.zeroValue60 Try.runUnderlying60 (by intro w; simp [Try.sizeOf3]) rfl rfl) (fun a hf => ?_)
      refine H.one (i := 21) rfl (by kernel_rfl) ?_
      refine S.call hf rfl rfl rfl (call_fn (vs := [(pn fg 0), .agg #[iv xk1.X, iv xk1.Y, iv xk1.Layer]]) rfl rfl rfl Try.call63) (R_field_at f xk1 _ f_g_BlockedA f_g_BlockedC ((Ag.args _ _ _).view hv_f_g_Blocked hs) f_blockedA f_blockedC ((Ag.args _ _ _).view hv_f_blocked hs) f_bestA f_bestC ((Ag.args _ _ _).view hv_f_best hs) fg ((Ag.args _ _ _).elem hb_f hs) _ h) (fun v a w' hf hr => ?_)
      obtain ⟨y5, rfl, h2, hs2⟩ := hr
      replace h := h2; replace hs := hs.call hs2; clear h2 hs2
      refine R.nil (X.then_ ?_)
      refine ⟨(hs.mask [false, false, true, true, true, true]), ?_⟩
      refine H.val hf (hs.mask [false, false, true, true, true, true]) (v := iv (w64 (3 * y5))) (i := 22) rfl rfl rfl rfl (by kernel_rfl) (by kernel_rfl) (by kernel_rfl) (V.pure rfl) (fun a hf => ?_)
      refine H.val hf (hs.mask [false, false, true, true, true, true]) (v := iv (w64 ((w64 (3 * y5)) + n2))) (i := 24) rfl rfl rfl rfl (by kernel_rfl) (by kernel_rfl) (by kernel_rfl) (V.pure rfl) (fun a hf => ?_)
      refine H.val hf (hs.mask [false, false, true, true, true, true]) (v := .agg #[iv (w64 (e_.worth.cost + y4)), iv (w64 (e_.worth.cells + 1)), iv (w64 ((w64 (3 * y5)) + n2))]) (i := 25) rfl rfl rfl rfl (by kernel_rfl) (by kernel_rfl) (by kernel_rfl) (V.build (places := #[(0, 2), (2, 1)]) rfl Try.zeroValue102 Try.runUnderlying102 (by intro w; simp [Try.sizeOf3, Try.sizeOf60]) rfl rfl) (fun a hf => ?_)
      refine H.one (i := 26) rfl (by kernel_rfl) ?_
      replace hs := hs.front 1 rfl
      replace hs := hs.front 1 rfl
      obtain ⟨F1, hsF, hback, hold, hrest⟩ := Sat.callOwns [hbox h_g 99 [.slice l4A l4.length l4C], hown 102 l4A l4C l4] (σ := [hbox g1 102 [iv e_.worth.cost, iv e_.worth.cells, iv e_.state], hbox g2 28 [iv y1.X, iv y1.Y, iv y1.Layer], hbox g3 28 [iv xk1.X, iv xk1.Y, iv xk1.Layer], hown 28 y2A y2C y2]) hs
      refine S.call hf rfl rfl rfl (call_fn (vs := [(pn h_g 0), .agg #[iv (w64 (e_.worth.cost + y4)), iv (w64 (e_.worth.cells + 1)), iv (w64 ((w64 (3 * y5)) + n2))]]) rfl rfl rfl Try.call72) (R_heap7_push (⟨l4⟩ : R7Heap) (⟨(⟨w64 (e_.worth.cost + y4), w64 (e_.worth.cells + 1)⟩ : R7Worth), w64 ((w64 (3 * y5)) + n2)⟩ : R7Entry) _ _ h_g l4A l4C hsF _ h) (fun v a w' hf hr => ?_)
      obtain ⟨z1, z1_lA, z1_lC, rfl, h2, hs2⟩ := hr
      replace h := h2; replace hs := hback _ _ hs2; clear h2 hs2 hback hold hrest hsF
      refine R.nil (X.then_ ?_)
      refine ⟨(hs.mask [false, false, true, true, true, true]), ?_⟩
      refine H.done (by kernel_rfl) ?_
      refine X.blk (X.then_ (R.list ?_))
      refine S.p hf hs (iv (w64 (n2 + 1))) rfl rfl fun a hf => ?_
      refine S.p hf hs (iv (w64 (n2 + 1))) rfl rfl fun a hf => ?_
      refine R.nil (X.then_ ?_)
      exact ⟨z1.l, z1_lA, z1_lC, (w64 (n2 + 1)), (by rw [hagain2] at h; exact h), (((((((((((hf.nil.cons (hf.get 31 _ rfl)).cons (hf.get 24 _ rfl)).cons (hf.get 23 _ rfl)).cons (hf.get 22 _ rfl)).cons (hf.get 10 _ rfl)).cons (hf.get 9 _ rfl)).cons (hf.get 7 _ rfl)).cons (hf.get 6 _ rfl)).cons (hf.get 5 _ rfl)).cons (hf.get 1 _ rfl)).cons (hf.get 0 _ rfl)), hs⟩
    ·skip
     refine R.list ?_
     refine S.p hf hs (iv y3) rfl rfl fun a hf => ?_
     refine S.p hf hs (.bool (y3 == 3)) rfl rfl fun a hf => ?_
     refine S.split hf hs (b := y3 == 3) rfl rfl rfl (V.pure rfl) (fun hc a hf => ?_) (fun hc a hf => ?_)
     ·replace h := h.1 hc
      refine S.p hf hs (iv n2) rfl rfl fun a hf => ?_
      refine S.p hf hs (iv (e_.state.tmod 3)) rfl rfl fun a hf => ?_
      refine S.p hf hs (.bool (n2 != (e_.state.tmod 3))) rfl rfl fun a hf => ?_
      refine S.p hf hs (.bool (n2 != (e_.state.tmod 3))) rfl rfl fun a hf => ?_
      refine S.split hf hs (b := n2 != (e_.state.tmod 3)) rfl rfl rfl (V.pure rfl) (fun hc a hf => ?_) (fun hc a hf => ?_)
      ·replace h := h.1 hc
       refine S.k hf rfl fun a hf => ?_
       refine S.k hf rfl fun a hf => ?_
       refine S.k hf rfl fun a hf => ?_
       refine S.k hf rfl fun a hf => ?_
       refine S.k hf rfl fun a hf => ?_
       refine S.k hf rfl fun a hf => ?_
       refine S.k hf rfl fun a hf => ?_
       refine S.p hf hs (.bool true) rfl rfl fun a hf => ?_
       refine R.nil (X.then_ ?_)
       exact ⟨true, h, (((((((((((((hf.nil.cons (hf.get 49 _ rfl)).cons (hf.get 31 _ rfl)).cons (hf.get 24 _ rfl)).cons (hf.get 23 _ rfl)).cons (hf.get 22 _ rfl)).cons (hf.get 11 _ rfl)).cons (hf.get 10 _ rfl)).cons (hf.get 9 _ rfl)).cons (hf.get 7 _ rfl)).cons (hf.get 6 _ rfl)).cons (hf.get 5 _ rfl)).cons (hf.get 1 _ rfl)).cons (hf.get 0 _ rfl)), hs⟩
      ·replace h := h.2 hc
       refine S.p hf hs (iv y3) rfl rfl fun a hf => ?_
       refine S.p hf hs (.bool (y3 != 3)) rfl rfl fun a hf => ?_
       refine S.split hf hs (b := y3 != 3) rfl rfl rfl (V.pure rfl) (fun hc a hf => ?_) (fun hc a hf => ?_)
       ·replace h := h.1 hc
        refine S.p hf hs (iv y3) rfl rfl fun a hf => ?_
        refine S.p hf hs (iv (e_.state.tmod 3)) rfl rfl fun a hf => ?_
        refine S.p hf hs (.bool (y3 != (e_.state.tmod 3))) rfl rfl fun a hf => ?_
        refine S.p hf hs (.bool (y3 != (e_.state.tmod 3))) rfl rfl fun a hf => ?_
        refine S.p hf hs (.bool (y3 != (e_.state.tmod 3))) rfl rfl fun a hf => ?_
        refine R.nil (X.then_ ?_)
        exact ⟨(y3 != (e_.state.tmod 3)), h, (((((((((((((hf.nil.cons (hf.get 49 _ rfl)).cons (hf.get 31 _ rfl)).cons (hf.get 24 _ rfl)).cons (hf.get 23 _ rfl)).cons (hf.get 22 _ rfl)).cons (hf.get 11 _ rfl)).cons (hf.get 10 _ rfl)).cons (hf.get 9 _ rfl)).cons (hf.get 7 _ rfl)).cons (hf.get 6 _ rfl)).cons (hf.get 5 _ rfl)).cons (hf.get 1 _ rfl)).cons (hf.get 0 _ rfl)), hs⟩
       ·replace h := h.2 hc
        refine S.k hf rfl fun a hf => ?_
        refine S.k hf rfl fun a hf => ?_
        refine S.k hf rfl fun a hf => ?_
        refine S.p hf hs (.bool false) rfl rfl fun a hf => ?_
        refine S.p hf hs (.bool false) rfl rfl fun a hf => ?_
        refine R.nil (X.then_ ?_)
        exact ⟨false, h, (((((((((((((hf.nil.cons (hf.get 49 _ rfl)).cons (hf.get 31 _ rfl)).cons (hf.get 24 _ rfl)).cons (hf.get 23 _ rfl)).cons (hf.get 22 _ rfl)).cons (hf.get 11 _ rfl)).cons (hf.get 10 _ rfl)).cons (hf.get 9 _ rfl)).cons (hf.get 7 _ rfl)).cons (hf.get 6 _ rfl)).cons (hf.get 5 _ rfl)).cons (hf.get 1 _ rfl)).cons (hf.get 0 _ rfl)), hs⟩
     ·replace h := h.2 hc
      refine S.k hf rfl fun a hf => ?_
      refine S.k hf rfl fun a hf => ?_
      refine S.k hf rfl fun a hf => ?_
      refine S.p hf hs (.bool false) rfl rfl fun a hf => ?_
      refine S.p hf hs (.bool false) rfl rfl fun a hf => ?_
      refine S.p hf hs (iv y3) rfl rfl fun a hf => ?_
      refine S.p hf hs (.bool (y3 != 3)) rfl rfl fun a hf => ?_
      refine S.split hf hs (b := y3 != 3) rfl rfl rfl (V.pure rfl) (fun hc a hf => ?_) (fun hc a hf => ?_)
      ·replace h := h.1 hc
       refine S.p hf hs (iv y3) rfl rfl fun a hf => ?_
       refine S.p hf hs (iv (e_.state.tmod 3)) rfl rfl fun a hf => ?_
       refine S.p hf hs (.bool (y3 != (e_.state.tmod 3))) rfl rfl fun a hf => ?_
       refine S.p hf hs (.bool (y3 != (e_.state.tmod 3))) rfl rfl fun a hf => ?_
       refine S.p hf hs (.bool (y3 != (e_.state.tmod 3))) rfl rfl fun a hf => ?_
       refine R.nil (X.then_ ?_)
       exact ⟨(y3 != (e_.state.tmod 3)), h, (((((((((((((hf.nil.cons (hf.get 49 _ rfl)).cons (hf.get 31 _ rfl)).cons (hf.get 24 _ rfl)).cons (hf.get 23 _ rfl)).cons (hf.get 22 _ rfl)).cons (hf.get 11 _ rfl)).cons (hf.get 10 _ rfl)).cons (hf.get 9 _ rfl)).cons (hf.get 7 _ rfl)).cons (hf.get 6 _ rfl)).cons (hf.get 5 _ rfl)).cons (hf.get 1 _ rfl)).cons (hf.get 0 _ rfl)), hs⟩
      ·replace h := h.2 hc
       refine S.k hf rfl fun a hf => ?_
       refine S.k hf rfl fun a hf => ?_
       refine S.k hf rfl fun a hf => ?_
       refine S.p hf hs (.bool false) rfl rfl fun a hf => ?_
       refine S.p hf hs (.bool false) rfl rfl fun a hf => ?_
       refine R.nil (X.then_ ?_)
       exact ⟨false, h, (((((((((((((hf.nil.cons (hf.get 49 _ rfl)).cons (hf.get 31 _ rfl)).cons (hf.get 24 _ rfl)).cons (hf.get 23 _ rfl)).cons (hf.get 22 _ rfl)).cons (hf.get 11 _ rfl)).cons (hf.get 10 _ rfl)).cons (hf.get 9 _ rfl)).cons (hf.get 7 _ rfl)).cons (hf.get 6 _ rfl)).cons (hf.get 5 _ rfl)).cons (hf.get 1 _ rfl)).cons (hf.get 0 _ rfl)), hs⟩
   ·replace h := h.2 hc
    refine wp_exit (X.then_exit (X.then_exit (X.blk_exit (X.blk (X.then_ (R.list ?_))))))
    refine S.v hf hs (iv ((k1 + 1 : Nat) : Int)) rfl (V.incr rfl rfl rfl hltk1 hlenk1) fun a hf => ?_
    refine S.p hf hs (iv ((k1 + 1 : Nat) : Int)) rfl rfl fun a hf => ?_
    refine R.nil (X.then_ ?_)
    replace hs := hs.front 5 rfl
    replace hs := hs.front 4 rfl
    replace hs := hs.front 4 rfl
    replace hs := hs.front 4 rfl
    replace hs := hs.front 4 rfl
    replace hs := hs.take 5
    exact ⟨xk1, llk1, rfl, k1 + 1, l4, l4A, l4C, range_drop hlk1, range_len hkk1, (by rw [hnext1] at h; exact h), ((((((((hf.nil.cons (hf.get 23 _ rfl)).cons (hf.get 22 _ rfl)).cons (hf.get 7 _ rfl)).cons (hf.get 6 _ rfl)).cons (hf.get 5 _ rfl)).cons (hf.get 1 _ rfl)).cons (hf.get 0 _ rfl)).cons (hf.get 24 _ rfl)), hs⟩
set_option linter.unusedVariables false
def M_ref7_fieldOf_L3 (g : Grid) (c : Costs) (Q : (Option ((List Bool) × (List R7Worth))) → Prop) (l2 : List Bool) (again3 : List R7Worth → List R7Entry → List Bool → Prop) (l8 : List R7Worth) (l9 : List R7Entry) (l10 : List Bool) : Prop :=
  cnd (decide ((l9.length : Int) > 0)) (M_heap7_pop (⟨l9⟩ : R7Heap) fun y2 z2 => idx l10 y2.state fun x1 => cnd x1 (again3 l8 z2.l l10) (idx l8 y2.state fun x2 => M_field_spread (⟨g, c, l2, (l8.set y2.state.toNat y2.worth)⟩ : R7Field) z2 y2 fun z3 => again3 (l8.set y2.state.toNat y2.worth) z3.l (l10.set y2.state.toNat true))) (Q (some (l2, l8)))
def M_ref7_fieldOf_L2 (g : Grid) (c : Costs) (goal : Cell) (Q : (Option ((List Bool) × (List R7Worth))) → Prop) (l2 : List Bool) (again2 : List R7Entry → Int → Prop) (l4 : List R7Entry) (n2 : Int) : Prop :=
  cnd (decide (n2 < 3)) (M_field_at (⟨g, c, l2, (List.replicate ((w64 ((w64 ((w64 (3 * g.W)) * g.H)) * g.Layers)).toNat) (⟨0, 0⟩ : R7Worth))⟩ : R7Field) goal fun y1 => M_heap7_push (⟨l4⟩ : R7Heap) (⟨(⟨0, 1⟩ : R7Worth), w64 ((w64 (3 * y1)) + n2)⟩ : R7Entry) fun z1 => again2 z1.l (w64 (n2 + 1))) (must (0 ≤ ((List.replicate ((w64 ((w64 ((w64 (3 * g.W)) * g.H)) * g.Layers)).toNat) (⟨0, 0⟩ : R7Worth)).length : Int) ∧ ((List.replicate ((w64 ((w64 ((w64 (3 * g.W)) * g.H)) * g.Layers)).toNat) (⟨0, 0⟩ : R7Worth)).length : Int) * 1 ≤ 281474976710656) (lp (fun again (s : List R7Worth × List R7Entry × List Bool) => M_ref7_fieldOf_L3 g c Q l2 (fun l8 l9 l10 => again (l8, l9, l10)) s.1 s.2.1 s.2.2) ((List.replicate ((w64 ((w64 ((w64 (3 * g.W)) * g.H)) * g.Layers)).toNat) (⟨0, 0⟩ : R7Worth)), l4, (List.replicate ((List.replicate ((w64 ((w64 ((w64 (3 * g.W)) * g.H)) * g.Layers)).toNat) (⟨0, 0⟩ : R7Worth)).length) false))))
def M_ref7_fieldOf_L1 (g : Grid) (c : Costs) (k1 : Nat) (xk1 : Cell) (l2 : List Bool) (next1 : List Bool → Prop) : Prop :=
  M_field_at (⟨g, c, l2, (List.replicate ((w64 ((w64 ((w64 (3 * g.W)) * g.H)) * g.Layers)).toNat) (⟨0, 0⟩ : R7Worth))⟩ : R7Field) xk1 fun y3 => idx l2 y3 fun x3 => next1 (l2.set y3.toNat true)
def M_ref7_fieldOf (g : Grid) (c : Costs) (goal : Cell) (Q : (Option ((List Bool) × (List R7Worth))) → Prop) : Prop :=
  ((must (0 ≤ w64 ((w64 (g.W * g.H)) * g.Layers) ∧ w64 ((w64 (g.W * g.H)) * g.Layers) * 1 ≤ 281474976710656) (must (0 ≤ w64 ((w64 ((w64 (3 * g.W)) * g.H)) * g.Layers) ∧ w64 ((w64 ((w64 (3 * g.W)) * g.H)) * g.Layers) * 16 ≤ 281474976710656) (forIn' (fun k x (s : List Bool) next => M_ref7_fieldOf_L1 g c k x s (fun l2 => next l2)) (fun (s : List Bool) => (fun (l2 : List Bool) => lp (fun again (s : List R7Entry × Int) => M_ref7_fieldOf_L2 g c goal Q l2 (fun l4 n2 => again (l4, n2)) s.1 s.2) (([] : List R7Entry), 0)) s) g.Blocked 0 (List.replicate ((w64 ((w64 (g.W * g.H)) * g.Layers)).toNat) false)))) ∧ (must (0 ≤ w64 ((w64 ((w64 (3 * g.W)) * g.H)) * g.Layers) ∧ w64 ((w64 ((w64 (3 * g.W)) * g.H)) * g.Layers) * 16 ≤ 281474976710656) (must (0 ≤ w64 ((w64 (g.W * g.H)) * g.Layers) ∧ w64 ((w64 (g.W * g.H)) * g.Layers) * 1 ≤ 281474976710656) (forIn' (fun k x (s : List Bool) next => M_ref7_fieldOf_L1 g c k x s (fun l2 => next l2)) (fun (s : List Bool) => (fun (l2 : List Bool) => lp (fun again (s : List R7Entry × Int) => M_ref7_fieldOf_L2 g c goal Q l2 (fun l4 n2 => again (l4, n2)) s.1 s.2) (([] : List R7Entry), 0)) s) g.Blocked 0 (List.replicate ((w64 ((w64 (g.W * g.H)) * g.Layers)).toNat) false)))))
set_option maxHeartbeats 1000000 in
theorem R_ref7_fieldOf (g : Grid) (c : Costs) (goal : Cell) (w0 : World) (g_BlockedA : Option Addr) (g_BlockedC : Nat) (hv_g_Blocked : View w0 (old w0 none_) g_BlockedA g_BlockedC g.Blocked) (Q : (Option ((List Bool) × (List R7Worth))) → Prop) (h : M_ref7_fieldOf g c goal Q) :
  Ret Try.prog 38 #[.agg #[iv g.W, iv g.H, iv g.Layers, .slice g_BlockedA g.Blocked.length g_BlockedC], .agg #[iv c.Step, iv c.Via, iv c.Turn, iv c.Against], .agg #[iv goal.X, iv goal.Y, iv goal.Layer]] w0 fun v w' => (v = .pointer none ∧ Q none ∧ Sat w0 none_ [] w') ∨ (∃ (r0 : ((List Bool) × (List R7Worth))) (r0g : Nat) (r0A0 : Option Addr) (r0C0 : Nat) (r0A1 : Option Addr) (r0C1 : Nat), v = (pn r0g 0) ∧ Q (some r0) ∧ Sat w0 none_ [hbox r0g 72 [iv g.W, iv g.H, iv g.Layers, .slice g_BlockedA g.Blocked.length g_BlockedC, iv c.Step, iv c.Via, iv c.Turn, iv c.Against, .slice r0A0 r0.1.length r0C0, .slice r0A1 r0.2.length r0C1], hown 4 r0A0 r0C0 r0.1, hown 60 r0A1 r0C1 r0.2] w') := by
 refine fn_enter Try.func38 rfl Try.ntmps38 rfl (fs := [(0, .agg #[iv g.W, iv g.H, iv g.Layers, .slice g_BlockedA g.Blocked.length g_BlockedC]), (1, .agg #[iv c.Step, iv c.Via, iv c.Turn, iv c.Against]), (2, .agg #[iv goal.X, iv goal.Y, iv goal.Layer])]) rfl (fun a hf => ?_)
 have hs := Sat.start w0 none_
 unfold M_ref7_fieldOf at h
 refine wp_seq (R.list ?_)
 refine S.box hf hs rfl rfl rfl [iv g.W, iv g.H, iv g.Layers, .slice g_BlockedA g.Blocked.length g_BlockedC] rfl rfl rfl (fun g1 a w hf hs => ?_)
 refine S.box hf hs rfl rfl rfl [iv c.Step, iv c.Via, iv c.Turn, iv c.Against] rfl rfl rfl (fun g2 a w hf hs => ?_)
 refine S.box hf hs rfl rfl rfl [iv goal.X, iv goal.Y, iv goal.Layer] rfl rfl rfl (fun g3 a w hf hs => ?_)
 refine S.p hf hs (.pointer none) rfl rfl fun a hf => ?_
 refine R.nil (X.then_ (wp_seq ?_))
 refine H.start (S := Sat w0 none_ [hbox g3 28 [iv goal.X, iv goal.Y, iv goal.Layer], hbox g2 26 [iv c.Step, iv c.Via, iv c.Turn, iv c.Against], hbox g1 24 [iv g.W, iv g.H, iv g.Layers, .slice g_BlockedA g.Blocked.length g_BlockedC]]) mo ?_
 replace hs := hs.drew
 refine H.v hf hs (.agg #[iv g.W, iv g.H, iv g.Layers, .slice g_BlockedA g.Blocked.length g_BlockedC]) 0 rfl rfl (by kernel_rfl) (V.loadBox 2 rfl rfl rfl Try.isAgg24 Try.sizeOf24 rfl rfl) fun a hf => ?_
 refine H.v hf hs (.agg #[iv c.Step, iv c.Via, iv c.Turn, iv c.Against]) 1 rfl rfl (by kernel_rfl) (V.loadBox 1 rfl rfl rfl Try.isAgg26 Try.sizeOf26 rfl rfl) fun a hf => ?_
 refine H.v hf hs ((pn g1 0)) 2 rfl rfl (by kernel_rfl) (V.fieldBox rfl rfl Try.runUnderlying24 rfl Try.sizeOf3 rfl rfl) fun a hf => ?_
 refine H.v hf hs (iv g.W) 3 rfl rfl (by kernel_rfl) (V.loadBox 2 rfl rfl rfl Try.isAgg3 Try.sizeOf3 rfl rfl) fun a hf => ?_
 refine H.v hf hs ((pn g1 1)) 4 rfl rfl (by kernel_rfl) (V.fieldBox rfl rfl Try.runUnderlying24 rfl Try.sizeOf3 rfl rfl) fun a hf => ?_
 refine H.v hf hs (iv g.H) 5 rfl rfl (by kernel_rfl) (V.loadBox 2 rfl rfl rfl Try.isAgg3 Try.sizeOf3 rfl rfl) fun a hf => ?_
 refine H.v hf hs (iv (w64 (g.W * g.H))) 6 rfl rfl (by kernel_rfl) (V.pure rfl) fun a hf => ?_
 refine H.v hf hs ((pn g1 2)) 7 rfl rfl (by kernel_rfl) (V.fieldBox rfl rfl Try.runUnderlying24 rfl Try.sizeOf3 rfl rfl) fun a hf => ?_
 refine H.v hf hs (iv g.Layers) 8 rfl rfl (by kernel_rfl) (V.loadBox 2 rfl rfl rfl Try.isAgg3 Try.sizeOf3 rfl rfl) fun a hf => ?_
 refine H.v hf hs (iv (w64 ((w64 (g.W * g.H)) * g.Layers))) 9 rfl rfl (by kernel_rfl) (V.pure rfl) fun a hf => ?_
 refine H.v hf hs ((pn g1 0)) 11 rfl rfl (by kernel_rfl) (V.fieldBox rfl rfl Try.runUnderlying24 rfl Try.sizeOf3 rfl rfl) fun a hf => ?_
 refine H.v hf hs (iv g.W) 12 rfl rfl (by kernel_rfl) (V.loadBox 2 rfl rfl rfl Try.isAgg3 Try.sizeOf3 rfl rfl) fun a hf => ?_
 refine H.v hf hs (iv (w64 (3 * g.W))) 13 rfl rfl (by kernel_rfl) (V.pure rfl) fun a hf => ?_
 refine H.v hf hs ((pn g1 1)) 14 rfl rfl (by kernel_rfl) (V.fieldBox rfl rfl Try.runUnderlying24 rfl Try.sizeOf3 rfl rfl) fun a hf => ?_
 refine H.v hf hs (iv g.H) 15 rfl rfl (by kernel_rfl) (V.loadBox 2 rfl rfl rfl Try.isAgg3 Try.sizeOf3 rfl rfl) fun a hf => ?_
 refine H.v hf hs (iv (w64 ((w64 (3 * g.W)) * g.H))) 16 rfl rfl (by kernel_rfl) (V.pure rfl) fun a hf => ?_
 refine H.v hf hs ((pn g1 2)) 17 rfl rfl (by kernel_rfl) (V.fieldBox rfl rfl Try.runUnderlying24 rfl Try.sizeOf3 rfl rfl) fun a hf => ?_
 refine H.v hf hs (iv g.Layers) 18 rfl rfl (by kernel_rfl) (V.loadBox 2 rfl rfl rfl Try.isAgg3 Try.sizeOf3 rfl rfl) fun a hf => ?_
 refine H.v hf hs (iv (w64 ((w64 ((w64 (3 * g.W)) * g.H)) * g.Layers))) 19 rfl rfl (by kernel_rfl) (V.pure rfl) fun a hf => ?_
 refine H.each2 (i0 := 10) (i1 := 20) rfl rfl (by kernel_rfl) ?_ ?_
 ·replace h := h.1
  obtain ⟨hmk, h⟩ := h
  refine S.make hf hs rfl rfl rfl (α := Bool) false (z := (w64 ((w64 (g.W * g.H)) * g.Layers))) (N := (w64 ((w64 (g.W * g.H)) * g.Layers)).toNat) rfl rfl rfl Try.underlying66 info4 hmk rfl (by have := hmk.2; omega) (fun A1 a w hf hs => ?_)
  refine R.nil (X.then_ ?_)
  refine ⟨(hs.mask [false, true, true, true]), ?_⟩
  refine H.one (i := 20) rfl (by kernel_rfl) ?_
  obtain ⟨hmk, h⟩ := h
  refine S.make hf hs rfl rfl rfl (α := R7Worth) (⟨0, 0⟩ : R7Worth) (z := (w64 ((w64 ((w64 (3 * g.W)) * g.H)) * g.Layers))) (N := (w64 ((w64 ((w64 (3 * g.W)) * g.H)) * g.Layers)).toNat) rfl rfl rfl Try.underlying70 info60 hmk rfl (by have := hmk.2; omega) (fun A2 a w hf hs => ?_)
  refine R.nil (X.then_ ?_)
  refine ⟨(hs.mask [false, false, true, true, true]), ?_⟩
  refine H.val hf (hs.mask [false, false, true, true, true]) (v := .agg #[iv g.W, iv g.H, iv g.Layers, .slice g_BlockedA g.Blocked.length g_BlockedC, iv c.Step, iv c.Via, iv c.Turn, iv c.Against, .slice A1 (List.replicate ((w64 ((w64 (g.W * g.H)) * g.Layers)).toNat) false).length ((w64 ((w64 (g.W * g.H)) * g.Layers)).toNat), .slice A2 (List.replicate ((w64 ((w64 ((w64 (3 * g.W)) * g.H)) * g.Layers)).toNat) (⟨0, 0⟩ : R7Worth)).length ((w64 ((w64 ((w64 (3 * g.W)) * g.H)) * g.Layers)).toNat)]) (i := 21) rfl rfl rfl rfl (by kernel_rfl) (by kernel_rfl) (by kernel_rfl) (V.build (places := #[(0, 4), (4, 4), (8, 1), (9, 1)]) rfl Try.zeroValue72 Try.runUnderlying72 (by intro w; simp [Try.sizeOf24, Try.sizeOf26, Try.sizeOf66, Try.sizeOf70]) rfl (by kernel_rfl)) (fun a hf => ?_)
  refine H.one (i := 22) rfl (by kernel_rfl) ?_
  refine S.box hf hs rfl rfl rfl [iv g.W, iv g.H, iv g.Layers, .slice g_BlockedA g.Blocked.length g_BlockedC, iv c.Step, iv c.Via, iv c.Turn, iv c.Against, .slice A1 (List.replicate ((w64 ((w64 (g.W * g.H)) * g.Layers)).toNat) false).length ((w64 ((w64 (g.W * g.H)) * g.Layers)).toNat), .slice A2 (List.replicate ((w64 ((w64 ((w64 (3 * g.W)) * g.H)) * g.Layers)).toNat) (⟨0, 0⟩ : R7Worth)).length ((w64 ((w64 ((w64 (3 * g.W)) * g.H)) * g.Layers)).toNat)] rfl rfl rfl (fun g4 a w hf hs => ?_)
  refine R.nil (X.then_ ?_)
  refine ⟨(hs.mask [false, false, false, true, true, true]), ?_⟩
  refine H.val hf (hs.mask [false, false, false, true, true, true]) (v := (pn g4 0)) (i := 23) rfl rfl rfl rfl (by kernel_rfl) (by kernel_rfl) (by kernel_rfl) (V.pure rfl) (fun a hf => ?_)
  refine H.done (by kernel_rfl) ?_
  refine X.then_ (wp_seq (wp_seq (R.list ?_)))
  refine S.v hf hs ((pn g1 3)) rfl (V.fieldBox rfl rfl Try.runUnderlying24 rfl Try.sizeOf22 rfl rfl) fun a hf => ?_
  refine S.v hf hs (.slice g_BlockedA g.Blocked.length g_BlockedC) rfl (V.loadBox 5 rfl rfl rfl Try.isAgg22 Try.sizeOf22 rfl rfl) fun a hf => ?_
  refine S.v hf hs (iv (g.Blocked.length : Int)) rfl (V.len rfl rfl Try.runUnderlying22) fun a hf => ?_
  refine S.p hf hs (iv 0) rfl rfl fun a hf => ?_
  refine R.nil (X.then_ (wp_block ?_))
  have hlenk1 := hv_g_Blocked.len64
  refine C.range (fun (ll : List Cell) a w => ∃ (k1 : Nat) (l2 : List Bool) (l2A : Option Addr) (l2C : Nat), g.Blocked.drop k1 = ll ∧ k1 + ll.length = g.Blocked.length ∧ forIn' (fun k x (s : List Bool) next => M_ref7_fieldOf_L1 g c k x s (fun l2 => next l2)) (fun (s : List Bool) => (fun (l2 : List Bool) => lp (fun again (s : List R7Entry × Int) => M_ref7_fieldOf_L2 g c goal Q l2 (fun l4 n2 => again (l4, n2)) s.1 s.2) (([] : List R7Entry), 0)) s) ll k1 l2 ∧ FrOk 106 [(40, iv (k1 : Int)), (5, (pn g3 0)), (7, (pn g4 0)), (38, .slice g_BlockedA g.Blocked.length g_BlockedC), (39, iv (g.Blocked.length : Int))] a ∧ Sat w0 none_ [hbox g4 72 [iv g.W, iv g.H, iv g.Layers, .slice g_BlockedA g.Blocked.length g_BlockedC, iv c.Step, iv c.Via, iv c.Turn, iv c.Against, .slice l2A l2.length l2C, .slice A2 (List.replicate ((w64 ((w64 ((w64 (3 * g.W)) * g.H)) * g.Layers)).toNat) (⟨0, 0⟩ : R7Worth)).length ((w64 ((w64 ((w64 (3 * g.W)) * g.H)) * g.Layers)).toNat)], hown 60 A2 ((w64 ((w64 ((w64 (3 * g.W)) * g.H)) * g.Layers)).toNat) (List.replicate ((w64 ((w64 ((w64 (3 * g.W)) * g.H)) * g.Layers)).toNat) (⟨0, 0⟩ : R7Worth)), hown 4 l2A l2C l2, hbox g3 28 [iv goal.X, iv goal.Y, iv goal.Layer], hbox g2 26 [iv c.Step, iv c.Via, iv c.Turn, iv c.Against], hbox g1 24 [iv g.W, iv g.H, iv g.Layers, .slice g_BlockedA g.Blocked.length g_BlockedC]] w) g.Blocked ⟨0, (List.replicate ((w64 ((w64 (g.W * g.H)) * g.Layers)).toNat) false), A1, ((w64 ((w64 (g.W * g.H)) * g.Layers)).toNat), rfl, Nat.zero_add _, h, (((((hf.nil.cons (hf.get 39 _ rfl)).cons (hf.get 38 _ rfl)).cons (hf.get 7 _ rfl)).cons (hf.get 5 _ rfl)).cons (hf.get 40 _ rfl)), hs⟩ ?_
  clear h hf hs
  rintro llk1 a w ⟨k1, l2, l2A, l2C, hlk1, hkk1, h, hf, hs⟩
  cases llk1 with
  | nil =>
   have hc := range_done hkk1
   replace h : (fun (l2 : List Bool) => lp (fun again (s : List R7Entry × Int) => M_ref7_fieldOf_L2 g c goal Q l2 (fun l4 n2 => again (l4, n2)) s.1 s.2) (([] : List R7Entry), 0)) l2 := h
   refine wp_seq (R.list ?_)
   refine S.v hf hs (.bool false) rfl (V.cmp false rfl rfl rfl rfl hc) fun a hf => ?_
   refine R.nil (X.then_ (wp_seq ?_))
   refine C.no hf rfl ?_
   refine wp_exit (X.then_exit (X.then_exit (X.blk_exit (X.then_ (wp_seq (R.list ?_))))))
   refine S.v hf hs (.agg #[.slice none 0 0]) rfl (V.build (places := #[(0, 1)]) rfl Try.zeroValue99 Try.runUnderlying99 (by intro w; simp [Try.sizeOf97]) rfl rfl) fun a hf => ?_
   refine S.box hf hs rfl rfl rfl [.slice none 0 0] rfl rfl rfl (fun g5 a w hf hs => ?_)
   refine S.p hf hs ((pn g5 0)) rfl rfl fun a hf => ?_
   refine R.nil (X.then_ (wp_seq (wp_seq (R.list ?_))))
   refine S.p hf hs (iv 0) rfl rfl fun a hf => ?_
   refine R.nil (X.then_ (wp_block ?_))
   replace hs := hs.nilOwn (α := R7Entry) 102
   replace hs := hs.rebox 1 (vs' := [.slice none ([] : List R7Entry).length 0]) rfl rfl
   replace hs := hs.front 1 rfl
   replace hs := hs.front 3 rfl
   replace hs := hs.front 4 rfl
   replace hs := hs.front 4 rfl
   replace hs := hs.front 5 rfl
   replace hs := hs.take 6
   obtain ⟨kk, h⟩ := h
   refine C.loop (fun kk a w => ∃ (l4 : List R7Entry) (l4A : Option Addr) (l4C : Nat) (n2 : Int), iterF (fun again (s : List R7Entry × Int) => M_ref7_fieldOf_L2 g c goal Q l2 (fun l4 n2 => again (l4, n2)) s.1 s.2) kk (l4, n2) ∧ FrOk 106 [(5, (pn g3 0)), (7, (pn g4 0)), (10, (pn g5 0)), (55, iv n2)] a ∧ Sat w0 none_ [hbox g3 28 [iv goal.X, iv goal.Y, iv goal.Layer], hbox g4 72 [iv g.W, iv g.H, iv g.Layers, .slice g_BlockedA g.Blocked.length g_BlockedC, iv c.Step, iv c.Via, iv c.Turn, iv c.Against, .slice l2A l2.length l2C, .slice A2 (List.replicate ((w64 ((w64 ((w64 (3 * g.W)) * g.H)) * g.Layers)).toNat) (⟨0, 0⟩ : R7Worth)).length ((w64 ((w64 ((w64 (3 * g.W)) * g.H)) * g.Layers)).toNat)], hown 4 l2A l2C l2, hown 60 A2 ((w64 ((w64 ((w64 (3 * g.W)) * g.H)) * g.Layers)).toNat) (List.replicate ((w64 ((w64 ((w64 (3 * g.W)) * g.H)) * g.Layers)).toNat) (⟨0, 0⟩ : R7Worth)), hbox g5 99 [.slice l4A l4.length l4C], hown 102 l4A l4C l4] w) kk ⟨([] : List R7Entry), none, 0, 0, h, ((((hf.nil.cons (hf.get 55 _ rfl)).cons (hf.get 10 _ rfl)).cons (hf.get 7 _ rfl)).cons (hf.get 5 _ rfl)), hs⟩ (fun a w ⟨_, _, _, _, h, _, _⟩ => h) ?_
   clear h hf hs
   rintro kk a w ⟨l4, l4A, l4C, n2, h, hf, hs⟩
   obtain ⟨again2, hagain2⟩ : ∃ X : List R7Entry → Int → Prop, X = (fun l4 n2 => iterF (fun again (s : List R7Entry × Int) => M_ref7_fieldOf_L2 g c goal Q l2 (fun l4 n2 => again (l4, n2)) s.1 s.2) kk (l4, n2)) := ⟨_, rfl⟩
   replace h : M_ref7_fieldOf_L2 g c goal Q l2 again2 l4 n2 := by rw [hagain2]; exact h
   unfold M_ref7_fieldOf_L2 at h
   refine wp_seq (R.list ?_)
   refine S.p hf hs (.bool (decide (n2 < 3))) rfl rfl fun a hf => ?_
   refine R.nil (X.then_ (wp_seq ?_))
   refine C.cond hf (b := decide (n2 < 3)) rfl (fun hc => ?_) (fun hc => ?_)
   ·replace h := h.1 hc
    refine wp_skip (X.then_ (wp_seq (wp_block (wp_seq (R.list ?_)))))
    refine S.p hf hs (iv n2) rfl rfl fun a hf => ?_
    refine S.p hf hs (iv n2) rfl rfl fun a hf => ?_
    refine R.nil (X.then_ (R.list ?_))
    refine S.p hf hs ((pn g5 0)) rfl rfl fun a hf => ?_
    refine S.v hf hs (.agg #[iv 0, iv 1]) rfl (V.build (places := #[(0, 1), (1, 1)]) rfl Try.zeroValue60 Try.runUnderlying60 (by intro w; simp [Try.sizeOf3]) rfl rfl) fun a hf => ?_
    refine S.p hf hs ((pn g4 0)) rfl rfl fun a hf => ?_
    refine S.v hf hs (.agg #[iv goal.X, iv goal.Y, iv goal.Layer]) rfl (V.loadBox 0 rfl rfl rfl Try.isAgg28 Try.sizeOf28 rfl rfl) fun a hf => ?_
    refine S.call hf rfl rfl rfl (call_fn (vs := [(pn g4 0), .agg #[iv goal.X, iv goal.Y, iv goal.Layer]]) rfl rfl rfl Try.call63) (R_field_at (⟨g, c, l2, (List.replicate ((w64 ((w64 ((w64 (3 * g.W)) * g.H)) * g.Layers)).toNat) (⟨0, 0⟩ : R7Worth))⟩ : R7Field) goal _ g_BlockedA g_BlockedC ((Ag.args _ _ _).view hv_g_Blocked hs) l2A l2C (hs.ownView 2 rfl) A2 ((w64 ((w64 ((w64 (3 * g.W)) * g.H)) * g.Layers)).toNat) (hs.ownView 3 rfl) g4 (hs.boxAt 1 rfl) _ h) (fun v a w' hf hr => ?_)
    obtain ⟨y1, rfl, h2, hs2⟩ := hr
    replace h := h2; replace hs := hs.call hs2; clear h2 hs2
    refine S.p hf hs (iv (w64 (3 * y1))) rfl rfl fun a hf => ?_
    refine S.p hf hs (iv n2) rfl rfl fun a hf => ?_
    refine S.p hf hs (iv (w64 ((w64 (3 * y1)) + n2))) rfl rfl fun a hf => ?_
    refine S.v hf hs (.agg #[iv 0, iv 1, iv (w64 ((w64 (3 * y1)) + n2))]) rfl (V.build (places := #[(0, 2), (2, 1)]) rfl Try.zeroValue102 Try.runUnderlying102 (by intro w; simp [Try.sizeOf3, Try.sizeOf60]) rfl rfl) fun a hf => ?_
    replace hs := hs.front 5 rfl
    replace hs := hs.front 5 rfl
    obtain ⟨F1, hsF, hback, hold, hrest⟩ := Sat.callOwns [hbox g5 99 [.slice l4A l4.length l4C], hown 102 l4A l4C l4] (σ := [hbox g3 28 [iv goal.X, iv goal.Y, iv goal.Layer], hbox g4 72 [iv g.W, iv g.H, iv g.Layers, .slice g_BlockedA g.Blocked.length g_BlockedC, iv c.Step, iv c.Via, iv c.Turn, iv c.Against, .slice l2A l2.length l2C, .slice A2 (List.replicate ((w64 ((w64 ((w64 (3 * g.W)) * g.H)) * g.Layers)).toNat) (⟨0, 0⟩ : R7Worth)).length ((w64 ((w64 ((w64 (3 * g.W)) * g.H)) * g.Layers)).toNat)], hown 4 l2A l2C l2, hown 60 A2 ((w64 ((w64 ((w64 (3 * g.W)) * g.H)) * g.Layers)).toNat) (List.replicate ((w64 ((w64 ((w64 (3 * g.W)) * g.H)) * g.Layers)).toNat) (⟨0, 0⟩ : R7Worth))]) hs
    refine S.call hf rfl rfl rfl (call_fn (vs := [(pn g5 0), .agg #[iv 0, iv 1, iv (w64 ((w64 (3 * y1)) + n2))]]) rfl rfl rfl Try.call72) (R_heap7_push (⟨l4⟩ : R7Heap) (⟨(⟨0, 1⟩ : R7Worth), w64 ((w64 (3 * y1)) + n2)⟩ : R7Entry) _ _ g5 l4A l4C hsF _ h) (fun v a w' hf hr => ?_)
    obtain ⟨z1, z1_lA, z1_lC, rfl, h2, hs2⟩ := hr
    replace h := h2; replace hs := hback _ _ hs2; clear h2 hs2 hback hold hrest hsF
    refine R.nil (X.blk (X.then_ (R.list ?_)))
    refine S.p hf hs (iv (w64 (n2 + 1))) rfl rfl fun a hf => ?_
    refine S.p hf hs (iv (w64 (n2 + 1))) rfl rfl fun a hf => ?_
    refine R.nil (X.then_ ?_)
    replace hs := hs.front 1 rfl
    replace hs := hs.front 1 rfl
    replace hs := hs.front 5 rfl
    replace hs := hs.front 5 rfl
    replace hs := hs.front 5 rfl
    replace hs := hs.front 5 rfl
    exact ⟨z1.l, z1_lA, z1_lC, (w64 (n2 + 1)), (by rw [hagain2] at h; exact h), ((((hf.nil.cons (hf.get 55 _ rfl)).cons (hf.get 10 _ rfl)).cons (hf.get 7 _ rfl)).cons (hf.get 5 _ rfl)), hs⟩
   ·replace h := h.2 hc
    refine wp_exit (X.then_exit (X.then_exit (X.blk_exit (X.then_ (wp_seq (R.list ?_))))))
    refine S.p hf hs ((pn g4 0)) rfl rfl fun a hf => ?_
    refine S.p hf hs ((pn g4 0)) rfl rfl fun a hf => ?_
    refine S.v hf hs ((pn g4 9)) rfl (V.fieldBox rfl rfl Try.runUnderlying72 rfl Try.sizeOf70 rfl rfl) fun a hf => ?_
    refine S.v hf hs (.slice A2 (List.replicate ((w64 ((w64 ((w64 (3 * g.W)) * g.H)) * g.Layers)).toNat) (⟨0, 0⟩ : R7Worth)).length ((w64 ((w64 ((w64 (3 * g.W)) * g.H)) * g.Layers)).toNat)) rfl (V.loadBox 1 rfl rfl rfl Try.isAgg70 Try.sizeOf70 rfl rfl) fun a hf => ?_
    refine S.v hf hs (iv ((List.replicate ((w64 ((w64 ((w64 (3 * g.W)) * g.H)) * g.Layers)).toNat) (⟨0, 0⟩ : R7Worth)).length : Int)) rfl (V.len rfl rfl Try.runUnderlying70) fun a hf => ?_
    obtain ⟨hmk, h⟩ := h
    refine S.make hf hs rfl rfl rfl (α := Bool) false (z := ((List.replicate ((w64 ((w64 ((w64 (3 * g.W)) * g.H)) * g.Layers)).toNat) (⟨0, 0⟩ : R7Worth)).length : Int)) (N := (List.replicate ((w64 ((w64 ((w64 (3 * g.W)) * g.H)) * g.Layers)).toNat) (⟨0, 0⟩ : R7Worth)).length) rfl rfl rfl Try.underlying66 info4 hmk rfl (by have := hmk.2; omega) (fun A3 a w hf hs => ?_)
    refine S.p hf hs (.slice A3 (List.replicate ((List.replicate ((w64 ((w64 ((w64 (3 * g.W)) * g.H)) * g.Layers)).toNat) (⟨0, 0⟩ : R7Worth)).length) false).length ((List.replicate ((w64 ((w64 ((w64 (3 * g.W)) * g.H)) * g.Layers)).toNat) (⟨0, 0⟩ : R7Worth)).length)) rfl rfl fun a hf => ?_
    refine R.nil (X.then_ (wp_seq (wp_block ?_)))
    replace hs := hs.front 6 rfl
    replace hs := hs.front 6 rfl
    replace hs := hs.front 6 rfl
    replace hs := hs.front 6 rfl
    replace hs := hs.front 6 rfl
    replace hs := hs.take 6
    obtain ⟨kk, h⟩ := h
    refine C.loop (fun kk a w => ∃ (l8 : List R7Worth) (l8A : Option Addr) (l8C : Nat) (l9 : List R7Entry) (l9A : Option Addr) (l9C : Nat) (l10 : List Bool) (l10A : Option Addr) (l10C : Nat), iterF (fun again (s : List R7Worth × List R7Entry × List Bool) => M_ref7_fieldOf_L3 g c Q l2 (fun l8 l9 l10 => again (l8, l9, l10)) s.1 s.2.1 s.2.2) kk (l8, l9, l10) ∧ FrOk 106 [(7, (pn g4 0)), (10, (pn g5 0)), (12, .slice l10A l10.length l10C)] a ∧ Sat w0 none_ [hbox g4 72 [iv g.W, iv g.H, iv g.Layers, .slice g_BlockedA g.Blocked.length g_BlockedC, iv c.Step, iv c.Via, iv c.Turn, iv c.Against, .slice l2A l2.length l2C, .slice l8A l8.length l8C], hown 4 l2A l2C l2, hown 60 l8A l8C l8, hbox g5 99 [.slice l9A l9.length l9C], hown 102 l9A l9C l9, hown 4 l10A l10C l10] w) kk ⟨(List.replicate ((w64 ((w64 ((w64 (3 * g.W)) * g.H)) * g.Layers)).toNat) (⟨0, 0⟩ : R7Worth)), A2, ((w64 ((w64 ((w64 (3 * g.W)) * g.H)) * g.Layers)).toNat), l4, l4A, l4C, (List.replicate ((List.replicate ((w64 ((w64 ((w64 (3 * g.W)) * g.H)) * g.Layers)).toNat) (⟨0, 0⟩ : R7Worth)).length) false), A3, ((List.replicate ((w64 ((w64 ((w64 (3 * g.W)) * g.H)) * g.Layers)).toNat) (⟨0, 0⟩ : R7Worth)).length), h, (((hf.nil.cons (hf.get 12 _ rfl)).cons (hf.get 10 _ rfl)).cons (hf.get 7 _ rfl)), hs⟩ (fun a w ⟨_, _, _, _, _, _, _, _, _, h, _, _⟩ => h) ?_
    clear h hf hs
    rintro kk a w ⟨l8, l8A, l8C, l9, l9A, l9C, l10, l10A, l10C, h, hf, hs⟩
    obtain ⟨again3, hagain3⟩ : ∃ X : List R7Worth → List R7Entry → List Bool → Prop, X = (fun l8 l9 l10 => iterF (fun again (s : List R7Worth × List R7Entry × List Bool) => M_ref7_fieldOf_L3 g c Q l2 (fun l8 l9 l10 => again (l8, l9, l10)) s.1 s.2.1 s.2.2) kk (l8, l9, l10)) := ⟨_, rfl⟩
    replace h : M_ref7_fieldOf_L3 g c Q l2 again3 l8 l9 l10 := by rw [hagain3]; exact h
    unfold M_ref7_fieldOf_L3 at h
    refine wp_seq (wp_seq (R.list ?_))
    refine S.p hf hs ((pn g5 0)) rfl rfl fun a hf => ?_
    refine S.p hf hs ((pn g5 0)) rfl rfl fun a hf => ?_
    refine S.v hf hs ((pn g5 0)) rfl (V.fieldBox rfl rfl Try.runUnderlying99 rfl Try.sizeOf97 rfl rfl) fun a hf => ?_
    refine S.v hf hs (.slice l9A l9.length l9C) rfl (V.loadBox 3 rfl rfl rfl Try.isAgg97 Try.sizeOf97 rfl rfl) fun a hf => ?_
    refine S.v hf hs (iv (l9.length : Int)) rfl (V.len rfl rfl Try.runUnderlying97) fun a hf => ?_
    refine S.p hf hs (.bool (decide ((l9.length : Int) > 0))) rfl rfl fun a hf => ?_
    refine R.nil (X.then_ ?_)
    refine C.cond hf (b := decide ((l9.length : Int) > 0)) rfl (fun hc => ?_) (fun hc => ?_)
    ·replace h := h.1 hc
     refine wp_skip (X.then_ (wp_block (wp_seq (R.list ?_))))
     refine S.p hf hs ((pn g5 0)) rfl rfl fun a hf => ?_
     replace hs := hs.front 4 rfl
     replace hs := hs.front 4 rfl
     obtain ⟨F1, hsF, hback, hold, hrest⟩ := Sat.callOwns [hbox g5 99 [.slice l9A l9.length l9C], hown 102 l9A l9C l9] (σ := [hbox g4 72 [iv g.W, iv g.H, iv g.Layers, .slice g_BlockedA g.Blocked.length g_BlockedC, iv c.Step, iv c.Via, iv c.Turn, iv c.Against, .slice l2A l2.length l2C, .slice l8A l8.length l8C], hown 4 l2A l2C l2, hown 60 l8A l8C l8, hown 4 l10A l10C l10]) hs
     refine S.call hf rfl rfl rfl (call_fn (vs := [(pn g5 0)]) rfl rfl rfl Try.call73) (R_heap7_pop (⟨l9⟩ : R7Heap) _ _ g5 l9A l9C hsF _ h) (fun v a w' hf hr => ?_)
     obtain ⟨y2, z2, z2_lA, z2_lC, rfl, h2, hs2⟩ := hr
     replace h := h2; replace hs := hback _ _ hs2; clear h2 hs2 hback hold hrest hsF
     refine S.alloc hf hs rfl rfl rfl [iv 0, iv 0, iv 0] rfl Try.zeroValue102 rfl (fun g6 a w hf hs => ?_)
     refine S.storeBox 0 hf hs rfl rfl [iv y2.worth.cost, iv y2.worth.cells, iv y2.state] [iv y2.worth.cost, iv y2.worth.cells, iv y2.state] rfl rfl rfl rfl rfl Try.sizeOf102 rfl rfl rfl rfl (fun a w hf hs => ?_)
     refine R.nil (X.then_ (wp_seq (wp_seq (R.list ?_))))
     refine S.p hf hs (.slice l10A l10.length l10C) rfl rfl fun a hf => ?_
     refine S.v hf hs ((pn g6 2)) rfl (V.fieldBox rfl rfl Try.runUnderlying102 rfl Try.sizeOf3 rfl rfl) fun a hf => ?_
     refine S.v hf hs (iv y2.state) rfl (V.loadBox 0 rfl rfl rfl Try.isAgg3 Try.sizeOf3 rfl rfl) fun a hf => ?_
     obtain ⟨h0x1, x1, hx1, h⟩ := h
     refine S.v hf hs (elemPtr l10A (y2.state.toNat * 1)) rfl (V.index rfl rfl rfl Try.runUnderlying66 Try.sizeOf4 (hs.ownSome 6 rfl (lt_of_get hx1)) h0x1 (lt_of_get hx1) rfl) fun a hf => ?_
     refine S.v hf hs (.bool x1) rfl (V.loadOwn (off := 0) 6 rfl hx1 rfl rfl rfl Try.isAgg4 Try.sizeOf4 rfl rfl) fun a hf => ?_
     refine R.nil (X.then_ ?_)
     refine C.cond hf (b := x1) rfl (fun hc => ?_) (fun hc => ?_)
     ·replace h := h.1 hc
      refine wp_exit (X.then_exit (X.blk_exit (X.then_ ?_)))
      replace hs := hs.front 6 rfl
      replace hs := hs.front 3 rfl
      replace hs := hs.front 3 rfl
      replace hs := hs.front 6 rfl
      replace hs := hs.front 6 rfl
      replace hs := hs.front 6 rfl
      replace hs := hs.take 6
      exact ⟨l8, l8A, l8C, z2.l, z2_lA, z2_lC, l10, l10A, l10C, (by rw [hagain3] at h; exact h), (((hf.nil.cons (hf.get 12 _ rfl)).cons (hf.get 10 _ rfl)).cons (hf.get 7 _ rfl)), hs⟩
     ·replace h := h.2 hc
      refine wp_skip (X.then_ (wp_seq (R.list ?_)))
      refine S.p hf hs (.slice l10A l10.length l10C) rfl rfl fun a hf => ?_
      refine S.v hf hs ((pn g6 2)) rfl (V.fieldBox rfl rfl Try.runUnderlying102 rfl Try.sizeOf3 rfl rfl) fun a hf => ?_
      refine S.v hf hs (iv y2.state) rfl (V.loadBox 0 rfl rfl rfl Try.isAgg3 Try.sizeOf3 rfl rfl) fun a hf => ?_
      refine S.v hf hs (elemPtr l10A (y2.state.toNat * 1)) rfl (V.index rfl rfl rfl Try.runUnderlying66 Try.sizeOf4 (hs.ownSome 6 rfl (lt_of_get hx1)) h0x1 (lt_of_get hx1) rfl) fun a hf => ?_
      refine S.storeOwn (off := 0) 6 hf hs rfl rfl true [.bool true] rfl hx1 rfl rfl rfl rfl rfl Try.sizeOf4 rfl (by decide) rfl rfl (fun a w hf hs => ?_)
      replace hf := hf.tell 12 (v := .slice l10A (l10.set y2.state.toNat true).length l10C) ((hf.get 12 (.slice l10A l10.length l10C) rfl).trans (congrArg (fun n => Value.slice l10A n l10C) List.length_set.symm))
      replace hf := hf.tell 83 (v := .slice l10A (l10.set y2.state.toNat true).length l10C) ((hf.get 83 (.slice l10A l10.length l10C) rfl).trans (congrArg (fun n => Value.slice l10A n l10C) List.length_set.symm))
      replace hf := hf.tell 88 (v := .slice l10A (l10.set y2.state.toNat true).length l10C) ((hf.get 88 (.slice l10A l10.length l10C) rfl).trans (congrArg (fun n => Value.slice l10A n l10C) List.length_set.symm))
      refine R.nil (X.then_ (wp_seq ?_))
      refine M.start 9 (Sat w0 none_ [hbox g6 102 [iv y2.worth.cost, iv y2.worth.cells, iv y2.state], hbox g5 99 [.slice z2_lA z2.l.length z2_lC], hown 102 z2_lA z2_lC z2.l, hbox g4 72 [iv g.W, iv g.H, iv g.Layers, .slice g_BlockedA g.Blocked.length g_BlockedC, iv c.Step, iv c.Via, iv c.Turn, iv c.Against, .slice l2A l2.length l2C, .slice l8A l8.length l8C], hown 4 l2A l2C l2, hown 60 l8A l8C l8, hown 4 l10A l10C (l10.set y2.state.toNat true)]) mo ?_
      replace hs := hs.drew
      refine M.v hf hs ((pn g4 0)) 0 rfl rfl (by kernel_rfl) (V.pure rfl) fun a hf => ?_
      refine M.v hf hs ((pn g4 0)) 1 rfl rfl (by kernel_rfl) (V.pure rfl) fun a hf => ?_
      refine M.v hf hs ((pn g4 9)) 2 rfl rfl (by kernel_rfl) (V.fieldBox rfl rfl Try.runUnderlying72 rfl Try.sizeOf70 rfl rfl) fun a hf => ?_
      refine M.v hf hs (.slice l8A l8.length l8C) 3 rfl rfl (by kernel_rfl) (V.loadBox 3 rfl rfl rfl Try.isAgg70 Try.sizeOf70 rfl rfl) fun a hf => ?_
      refine M.v hf hs ((pn g6 2)) 4 rfl rfl (by kernel_rfl) (V.fieldBox rfl rfl Try.runUnderlying102 rfl Try.sizeOf3 rfl rfl) fun a hf => ?_
      refine M.v hf hs (iv y2.state) 5 rfl rfl (by kernel_rfl) (V.loadBox 0 rfl rfl rfl Try.isAgg3 Try.sizeOf3 rfl rfl) fun a hf => ?_
      refine M.v hf hs ((pn g6 0)) 6 rfl rfl (by kernel_rfl) (V.fieldBox rfl rfl Try.runUnderlying102 rfl Try.sizeOf60 rfl rfl) fun a hf => ?_
      refine M.v hf hs (.agg #[iv y2.worth.cost, iv y2.worth.cells]) 7 rfl rfl (by kernel_rfl) (V.loadBox 0 rfl rfl rfl Try.isAgg60 Try.sizeOf60 rfl rfl) fun a hf => ?_
      obtain ⟨h0x2, x2, hx2, h⟩ := h
      refine M.v hf hs (elemPtr l8A (y2.state.toNat * 2)) 8 rfl rfl (by kernel_rfl) (V.index rfl rfl rfl Try.runUnderlying70 Try.sizeOf60 (hs.ownSome 5 rfl (lt_of_get hx2)) h0x2 (lt_of_get hx2) rfl) fun a hf => ?_
      refine M.last (i := 9) rfl (by kernel_rfl) (by kernel_rfl) ?_
      refine S.storeOwn (off := 0) 5 hf hs rfl rfl y2.worth [iv y2.worth.cost, iv y2.worth.cells] rfl hx2 rfl rfl rfl rfl rfl Try.sizeOf60 rfl (by decide) rfl rfl (fun a w hf hs => ?_)
      replace hs := hs.rebox 3 (vs' := [iv g.W, iv g.H, iv g.Layers, .slice g_BlockedA g.Blocked.length g_BlockedC, iv c.Step, iv c.Via, iv c.Turn, iv c.Against, .slice l2A l2.length l2C, .slice l8A (l8.set y2.state.toNat y2.worth).length l8C]) rfl (congrArg (fun n => [iv g.W, iv g.H, iv g.Layers, .slice g_BlockedA g.Blocked.length g_BlockedC, iv c.Step, iv c.Via, iv c.Turn, iv c.Against, .slice l2A l2.length l2C, Value.slice l8A n l8C]) List.length_set.symm)
      replace hf := hf.tell 95 (v := .slice l8A (l8.set y2.state.toNat y2.worth).length l8C) ((hf.get 95 (.slice l8A l8.length l8C) rfl).trans (congrArg (fun n => Value.slice l8A n l8C) List.length_set.symm))
      refine R.nil (X.then_ ?_)
      refine M.done (by kernel_rfl) ?_
      refine X.then_ (R.list ?_)
      refine S.p hf hs ((pn g4 0)) rfl rfl fun a hf => ?_
      refine S.p hf hs ((pn g5 0)) rfl rfl fun a hf => ?_
      refine S.v hf hs (.agg #[iv y2.worth.cost, iv y2.worth.cells, iv y2.state]) rfl (V.loadBox 0 rfl rfl rfl Try.isAgg102 Try.sizeOf102 rfl rfl) fun a hf => ?_
      replace hs := hs.front 2 rfl
      replace hs := hs.front 2 rfl
      obtain ⟨F1, hsF, hback, hold, hrest⟩ := Sat.callOwns [hbox g5 99 [.slice z2_lA z2.l.length z2_lC], hown 102 z2_lA z2_lC z2.l] (σ := [hbox g6 102 [iv y2.worth.cost, iv y2.worth.cells, iv y2.state], hbox g4 72 [iv g.W, iv g.H, iv g.Layers, .slice g_BlockedA g.Blocked.length g_BlockedC, iv c.Step, iv c.Via, iv c.Turn, iv c.Against, .slice l2A l2.length l2C, .slice l8A (l8.set y2.state.toNat y2.worth).length l8C], hown 4 l2A l2C l2, hown 60 l8A l8C (l8.set y2.state.toNat y2.worth), hown 4 l10A l10C (l10.set y2.state.toNat true)]) hs
      refine S.call hf rfl rfl rfl (call_fn (vs := [(pn g4 0), (pn g5 0), .agg #[iv y2.worth.cost, iv y2.worth.cells, iv y2.state]]) rfl rfl rfl Try.call74) (R_field_spread (⟨g, c, l2, (l8.set y2.state.toNat y2.worth)⟩ : R7Field) z2 y2 _ _ g_BlockedA g_BlockedC (viewArgsF hs hold hv_g_Blocked) l2A l2C (ownViewF hrest 2 rfl) l8A l8C (ownViewF hrest 3 rfl) g4 (boxAtF hrest 1 rfl) g5 z2_lA z2_lC hsF _ h) (fun v a w' hf hr => ?_)
      obtain ⟨z3, z3_lA, z3_lC, rfl, h2, hs2⟩ := hr
      replace h := h2; replace hs := hback _ _ hs2; clear h2 hs2 hback hold hrest hsF
      refine R.nil (X.blk (X.then_ ?_))
      replace hs := hs.front 6 rfl
      replace hs := hs.front 2 rfl
      replace hs := hs.front 2 rfl
      replace hs := hs.front 6 rfl
      replace hs := hs.front 6 rfl
      replace hs := hs.front 6 rfl
      replace hs := hs.take 6
      exact ⟨(l8.set y2.state.toNat y2.worth), l8A, l8C, z3.l, z3_lA, z3_lC, (l10.set y2.state.toNat true), l10A, l10C, (by rw [hagain3] at h; exact h), (((hf.nil.cons (hf.get 12 _ rfl)).cons (hf.get 10 _ rfl)).cons (hf.get 7 _ rfl)), hs⟩
    ·replace h := h.2 hc
     refine wp_exit (X.then_exit (X.then_exit (X.blk_exit (X.then_ (wp_seq (R.list ?_))))))
     refine S.p hf hs ((pn g4 0)) rfl rfl fun a hf => ?_
     refine S.p hf hs ((pn g4 0)) rfl rfl fun a hf => ?_
     refine R.nil (X.then_ (wp_ret ?_))
     replace hs := hs.front 2 rfl
     replace hs := hs.front 2 rfl
     replace hs := hs.front 2 rfl
     replace hs := hs.take 3
     exact L.ret hf (run_results1 Try.results38 (ResIs.tmp hf rfl)) (.inr ⟨(l2, l8), g4, l2A, l2C, l8A, l8C, rfl, h, hs⟩)
  | cons xk1 llk1 =>
   have hltk1 := range_lt hkk1; have hc := range_go hkk1; have hxk1 := range_get hlk1
   obtain ⟨next1, hnext1⟩ : ∃ X : List Bool → Prop, X = (fun l2 => forIn' (fun k x (s : List Bool) next => M_ref7_fieldOf_L1 g c k x s (fun l2 => next l2)) (fun (s : List Bool) => (fun (l2 : List Bool) => lp (fun again (s : List R7Entry × Int) => M_ref7_fieldOf_L2 g c goal Q l2 (fun l4 n2 => again (l4, n2)) s.1 s.2) (([] : List R7Entry), 0)) s) llk1 (k1 + 1) l2) := ⟨_, rfl⟩
   replace h : M_ref7_fieldOf_L1 g c k1 xk1 l2 next1 := by rw [hnext1]; exact h
   unfold M_ref7_fieldOf_L1 at h
   refine wp_seq (R.list ?_)
   refine S.v hf hs (.bool true) rfl (V.cmp true rfl rfl rfl rfl hc) fun a hf => ?_
   refine R.nil (X.then_ (wp_seq ?_))
   refine C.yes hf rfl ?_
   refine wp_skip (X.then_ (wp_seq (wp_block (wp_seq (R.list ?_)))))
   refine S.v hf hs (elemPtr g_BlockedA (k1 * 3)) rfl (V.index rfl rfl rfl Try.runUnderlying22 Try.sizeOf28 (hv_g_Blocked.some_ (lt_of_get hxk1)) (Int.natCast_nonneg _) (lt_of_get hxk1) rfl) fun a hf => ?_
   refine S.v hf hs (.agg #[iv xk1.X, iv xk1.Y, iv xk1.Layer]) rfl (V.loadEl (off := 0) (Ag.args _ _ _) (hv_g_Blocked.flat hxk1) rfl rfl rfl Try.isAgg28 Try.sizeOf28 rfl rfl) fun a hf => ?_
   refine S.alloc hf hs rfl rfl rfl [iv 0, iv 0, iv 0] rfl Try.zeroValue28 rfl (fun g7 a w hf hs => ?_)
   refine S.storeBox 0 hf hs rfl rfl [iv xk1.X, iv xk1.Y, iv xk1.Layer] [iv xk1.X, iv xk1.Y, iv xk1.Layer] rfl rfl rfl rfl rfl Try.sizeOf28 rfl rfl rfl rfl (fun a w hf hs => ?_)
   refine R.nil (X.then_ ?_)
   refine M.start 8 (Sat w0 none_ [hbox g7 28 [iv xk1.X, iv xk1.Y, iv xk1.Layer], hbox g4 72 [iv g.W, iv g.H, iv g.Layers, .slice g_BlockedA g.Blocked.length g_BlockedC, iv c.Step, iv c.Via, iv c.Turn, iv c.Against, .slice l2A l2.length l2C, .slice A2 (List.replicate ((w64 ((w64 ((w64 (3 * g.W)) * g.H)) * g.Layers)).toNat) (⟨0, 0⟩ : R7Worth)).length ((w64 ((w64 ((w64 (3 * g.W)) * g.H)) * g.Layers)).toNat)], hown 60 A2 ((w64 ((w64 ((w64 (3 * g.W)) * g.H)) * g.Layers)).toNat) (List.replicate ((w64 ((w64 ((w64 (3 * g.W)) * g.H)) * g.Layers)).toNat) (⟨0, 0⟩ : R7Worth)), hown 4 l2A l2C l2, hbox g3 28 [iv goal.X, iv goal.Y, iv goal.Layer], hbox g2 26 [iv c.Step, iv c.Via, iv c.Turn, iv c.Against], hbox g1 24 [iv g.W, iv g.H, iv g.Layers, .slice g_BlockedA g.Blocked.length g_BlockedC]]) mo ?_
   replace hs := hs.drew
   refine M.v hf hs ((pn g4 0)) 0 rfl rfl (by kernel_rfl) (V.pure rfl) fun a hf => ?_
   refine M.v hf hs ((pn g4 0)) 1 rfl rfl (by kernel_rfl) (V.pure rfl) fun a hf => ?_
   refine M.v hf hs ((pn g4 8)) 2 rfl rfl (by kernel_rfl) (V.fieldBox rfl rfl Try.runUnderlying72 rfl Try.sizeOf66 rfl rfl) fun a hf => ?_
   refine M.v hf hs (.slice l2A l2.length l2C) 3 rfl rfl (by kernel_rfl) (V.loadBox 1 rfl rfl rfl Try.isAgg66 Try.sizeOf66 rfl rfl) fun a hf => ?_
   refine M.v hf hs ((pn g4 0)) 4 rfl rfl (by kernel_rfl) (V.pure rfl) fun a hf => ?_
   refine M.v hf hs (.agg #[iv xk1.X, iv xk1.Y, iv xk1.Layer]) 5 rfl rfl (by kernel_rfl) (V.loadBox 0 rfl rfl rfl Try.isAgg28 Try.sizeOf28 rfl rfl) fun a hf => ?_
   refine M.one (i := 6) rfl (by kernel_rfl) ?_
   refine S.call hf rfl rfl rfl (call_fn (vs := [(pn g4 0), .agg #[iv xk1.X, iv xk1.Y, iv xk1.Layer]]) rfl rfl rfl Try.call63) (R_field_at (⟨g, c, l2, (List.replicate ((w64 ((w64 ((w64 (3 * g.W)) * g.H)) * g.Layers)).toNat) (⟨0, 0⟩ : R7Worth))⟩ : R7Field) xk1 _ g_BlockedA g_BlockedC ((Ag.args _ _ _).view hv_g_Blocked hs) l2A l2C (hs.ownView 3 rfl) A2 ((w64 ((w64 ((w64 (3 * g.W)) * g.H)) * g.Layers)).toNat) (hs.ownView 2 rfl) g4 (hs.boxAt 1 rfl) _ h) (fun v a w' hf hr => ?_)
   obtain ⟨y3, rfl, h2, hs2⟩ := hr
   replace h := h2; replace hs := hs.call hs2; clear h2 hs2
   refine R.nil (X.then_ ?_)
   refine ⟨hs, ?_⟩
   obtain ⟨h0x3, x3, hx3, h⟩ := h
   refine M.v hf hs (elemPtr l2A (y3.toNat * 1)) 7 rfl rfl (by kernel_rfl) (V.index rfl rfl rfl Try.runUnderlying66 Try.sizeOf4 (hs.ownSome 3 rfl (lt_of_get hx3)) h0x3 (lt_of_get hx3) rfl) fun a hf => ?_
   refine M.last (i := 8) rfl (by kernel_rfl) (by kernel_rfl) ?_
   refine S.storeOwn (off := 0) 3 hf hs rfl rfl true [.bool true] rfl hx3 rfl rfl rfl rfl rfl Try.sizeOf4 rfl (by decide) rfl rfl (fun a w hf hs => ?_)
   replace hs := hs.rebox 1 (vs' := [iv g.W, iv g.H, iv g.Layers, .slice g_BlockedA g.Blocked.length g_BlockedC, iv c.Step, iv c.Via, iv c.Turn, iv c.Against, .slice l2A (l2.set y3.toNat true).length l2C, .slice A2 (List.replicate ((w64 ((w64 ((w64 (3 * g.W)) * g.H)) * g.Layers)).toNat) (⟨0, 0⟩ : R7Worth)).length ((w64 ((w64 ((w64 (3 * g.W)) * g.H)) * g.Layers)).toNat)]) rfl (congrArg (fun n => [iv g.W, iv g.H, iv g.Layers, .slice g_BlockedA g.Blocked.length g_BlockedC, iv c.Step, iv c.Via, iv c.Turn, iv c.Against, Value.slice l2A n l2C, .slice A2 (List.replicate ((w64 ((w64 ((w64 (3 * g.W)) * g.H)) * g.Layers)).toNat) (⟨0, 0⟩ : R7Worth)).length ((w64 ((w64 ((w64 (3 * g.W)) * g.H)) * g.Layers)).toNat)]) List.length_set.symm)
   replace hf := hf.tell 47 (v := .slice l2A (l2.set y3.toNat true).length l2C) ((hf.get 47 (.slice l2A l2.length l2C) rfl).trans (congrArg (fun n => Value.slice l2A n l2C) List.length_set.symm))
   refine R.nil (X.then_ ?_)
   refine M.done (by kernel_rfl) ?_
   refine X.blk (X.then_ (R.list ?_))
   refine S.v hf hs (iv ((k1 + 1 : Nat) : Int)) rfl (V.incr rfl rfl rfl hltk1 hlenk1) fun a hf => ?_
   refine S.p hf hs (iv ((k1 + 1 : Nat) : Int)) rfl rfl fun a hf => ?_
   refine R.nil (X.then_ ?_)
   exact ⟨xk1, llk1, rfl, k1 + 1, (l2.set y3.toNat true), l2A, l2C, range_drop hlk1, range_len hkk1, (by rw [hnext1] at h; exact h), (((((hf.nil.cons (hf.get 39 _ rfl)).cons (hf.get 38 _ rfl)).cons (hf.get 7 _ rfl)).cons (hf.get 5 _ rfl)).cons (hf.get 40 _ rfl)), hs.drop⟩
 ·replace h := h.2
  obtain ⟨hmk, h⟩ := h
  refine S.make hf hs rfl rfl rfl (α := R7Worth) (⟨0, 0⟩ : R7Worth) (z := (w64 ((w64 ((w64 (3 * g.W)) * g.H)) * g.Layers))) (N := (w64 ((w64 ((w64 (3 * g.W)) * g.H)) * g.Layers)).toNat) rfl rfl rfl Try.underlying70 info60 hmk rfl (by have := hmk.2; omega) (fun A1 a w hf hs => ?_)
  refine R.nil (X.then_ ?_)
  refine ⟨(hs.mask [false, true, true, true]), ?_⟩
  refine H.one (i := 10) rfl (by kernel_rfl) ?_
  obtain ⟨hmk, h⟩ := h
  refine S.make hf hs rfl rfl rfl (α := Bool) false (z := (w64 ((w64 (g.W * g.H)) * g.Layers))) (N := (w64 ((w64 (g.W * g.H)) * g.Layers)).toNat) rfl rfl rfl Try.underlying66 info4 hmk rfl (by have := hmk.2; omega) (fun A2 a w hf hs => ?_)
  refine R.nil (X.then_ ?_)
  refine ⟨(hs.mask [false, false, true, true, true]), ?_⟩
  refine H.val hf (hs.mask [false, false, true, true, true]) (v := .agg #[iv g.W, iv g.H, iv g.Layers, .slice g_BlockedA g.Blocked.length g_BlockedC, iv c.Step, iv c.Via, iv c.Turn, iv c.Against, .slice A2 (List.replicate ((w64 ((w64 (g.W * g.H)) * g.Layers)).toNat) false).length ((w64 ((w64 (g.W * g.H)) * g.Layers)).toNat), .slice A1 (List.replicate ((w64 ((w64 ((w64 (3 * g.W)) * g.H)) * g.Layers)).toNat) (⟨0, 0⟩ : R7Worth)).length ((w64 ((w64 ((w64 (3 * g.W)) * g.H)) * g.Layers)).toNat)]) (i := 21) rfl rfl rfl rfl (by kernel_rfl) (by kernel_rfl) (by kernel_rfl) (V.build (places := #[(0, 4), (4, 4), (8, 1), (9, 1)]) rfl Try.zeroValue72 Try.runUnderlying72 (by intro w; simp [Try.sizeOf24, Try.sizeOf26, Try.sizeOf66, Try.sizeOf70]) rfl (by kernel_rfl)) (fun a hf => ?_)
  refine H.one (i := 22) rfl (by kernel_rfl) ?_
  refine S.box hf hs rfl rfl rfl [iv g.W, iv g.H, iv g.Layers, .slice g_BlockedA g.Blocked.length g_BlockedC, iv c.Step, iv c.Via, iv c.Turn, iv c.Against, .slice A2 (List.replicate ((w64 ((w64 (g.W * g.H)) * g.Layers)).toNat) false).length ((w64 ((w64 (g.W * g.H)) * g.Layers)).toNat), .slice A1 (List.replicate ((w64 ((w64 ((w64 (3 * g.W)) * g.H)) * g.Layers)).toNat) (⟨0, 0⟩ : R7Worth)).length ((w64 ((w64 ((w64 (3 * g.W)) * g.H)) * g.Layers)).toNat)] rfl rfl rfl (fun g4 a w hf hs => ?_)
  refine R.nil (X.then_ ?_)
  refine ⟨(hs.mask [false, false, false, true, true, true]), ?_⟩
  refine H.val hf (hs.mask [false, false, false, true, true, true]) (v := (pn g4 0)) (i := 23) rfl rfl rfl rfl (by kernel_rfl) (by kernel_rfl) (by kernel_rfl) (V.pure rfl) (fun a hf => ?_)
  refine H.done (by kernel_rfl) ?_
  refine X.then_ (wp_seq (wp_seq (R.list ?_)))
  refine S.v hf hs ((pn g1 3)) rfl (V.fieldBox rfl rfl Try.runUnderlying24 rfl Try.sizeOf22 rfl rfl) fun a hf => ?_
  refine S.v hf hs (.slice g_BlockedA g.Blocked.length g_BlockedC) rfl (V.loadBox 5 rfl rfl rfl Try.isAgg22 Try.sizeOf22 rfl rfl) fun a hf => ?_
  refine S.v hf hs (iv (g.Blocked.length : Int)) rfl (V.len rfl rfl Try.runUnderlying22) fun a hf => ?_
  refine S.p hf hs (iv 0) rfl rfl fun a hf => ?_
  refine R.nil (X.then_ (wp_block ?_))
  have hlenk1 := hv_g_Blocked.len64
  refine C.range (fun (ll : List Cell) a w => ∃ (k1 : Nat) (l2 : List Bool) (l2A : Option Addr) (l2C : Nat), g.Blocked.drop k1 = ll ∧ k1 + ll.length = g.Blocked.length ∧ forIn' (fun k x (s : List Bool) next => M_ref7_fieldOf_L1 g c k x s (fun l2 => next l2)) (fun (s : List Bool) => (fun (l2 : List Bool) => lp (fun again (s : List R7Entry × Int) => M_ref7_fieldOf_L2 g c goal Q l2 (fun l4 n2 => again (l4, n2)) s.1 s.2) (([] : List R7Entry), 0)) s) ll k1 l2 ∧ FrOk 106 [(40, iv (k1 : Int)), (5, (pn g3 0)), (7, (pn g4 0)), (38, .slice g_BlockedA g.Blocked.length g_BlockedC), (39, iv (g.Blocked.length : Int))] a ∧ Sat w0 none_ [hbox g4 72 [iv g.W, iv g.H, iv g.Layers, .slice g_BlockedA g.Blocked.length g_BlockedC, iv c.Step, iv c.Via, iv c.Turn, iv c.Against, .slice l2A l2.length l2C, .slice A1 (List.replicate ((w64 ((w64 ((w64 (3 * g.W)) * g.H)) * g.Layers)).toNat) (⟨0, 0⟩ : R7Worth)).length ((w64 ((w64 ((w64 (3 * g.W)) * g.H)) * g.Layers)).toNat)], hown 4 l2A l2C l2, hown 60 A1 ((w64 ((w64 ((w64 (3 * g.W)) * g.H)) * g.Layers)).toNat) (List.replicate ((w64 ((w64 ((w64 (3 * g.W)) * g.H)) * g.Layers)).toNat) (⟨0, 0⟩ : R7Worth)), hbox g3 28 [iv goal.X, iv goal.Y, iv goal.Layer], hbox g2 26 [iv c.Step, iv c.Via, iv c.Turn, iv c.Against], hbox g1 24 [iv g.W, iv g.H, iv g.Layers, .slice g_BlockedA g.Blocked.length g_BlockedC]] w) g.Blocked ⟨0, (List.replicate ((w64 ((w64 (g.W * g.H)) * g.Layers)).toNat) false), A2, ((w64 ((w64 (g.W * g.H)) * g.Layers)).toNat), rfl, Nat.zero_add _, h, (((((hf.nil.cons (hf.get 39 _ rfl)).cons (hf.get 38 _ rfl)).cons (hf.get 7 _ rfl)).cons (hf.get 5 _ rfl)).cons (hf.get 40 _ rfl)), hs⟩ ?_
  clear h hf hs
  rintro llk1 a w ⟨k1, l2, l2A, l2C, hlk1, hkk1, h, hf, hs⟩
  cases llk1 with
  | nil =>
   have hc := range_done hkk1
   replace h : (fun (l2 : List Bool) => lp (fun again (s : List R7Entry × Int) => M_ref7_fieldOf_L2 g c goal Q l2 (fun l4 n2 => again (l4, n2)) s.1 s.2) (([] : List R7Entry), 0)) l2 := h
   refine wp_seq (R.list ?_)
   refine S.v hf hs (.bool false) rfl (V.cmp false rfl rfl rfl rfl hc) fun a hf => ?_
   refine R.nil (X.then_ (wp_seq ?_))
   refine C.no hf rfl ?_
   refine wp_exit (X.then_exit (X.then_exit (X.blk_exit (X.then_ (wp_seq (R.list ?_))))))
   refine S.v hf hs (.agg #[.slice none 0 0]) rfl (V.build (places := #[(0, 1)]) rfl Try.zeroValue99 Try.runUnderlying99 (by intro w; simp [Try.sizeOf97]) rfl rfl) fun a hf => ?_
   refine S.box hf hs rfl rfl rfl [.slice none 0 0] rfl rfl rfl (fun g5 a w hf hs => ?_)
   refine S.p hf hs ((pn g5 0)) rfl rfl fun a hf => ?_
   refine R.nil (X.then_ (wp_seq (wp_seq (R.list ?_))))
   refine S.p hf hs (iv 0) rfl rfl fun a hf => ?_
   refine R.nil (X.then_ (wp_block ?_))
   replace hs := hs.nilOwn (α := R7Entry) 102
   replace hs := hs.rebox 1 (vs' := [.slice none ([] : List R7Entry).length 0]) rfl rfl
   replace hs := hs.front 1 rfl
   replace hs := hs.front 4 rfl
   replace hs := hs.front 4 rfl
   replace hs := hs.front 4 rfl
   replace hs := hs.front 5 rfl
   replace hs := hs.take 6
   obtain ⟨kk, h⟩ := h
   refine C.loop (fun kk a w => ∃ (l4 : List R7Entry) (l4A : Option Addr) (l4C : Nat) (n2 : Int), iterF (fun again (s : List R7Entry × Int) => M_ref7_fieldOf_L2 g c goal Q l2 (fun l4 n2 => again (l4, n2)) s.1 s.2) kk (l4, n2) ∧ FrOk 106 [(5, (pn g3 0)), (7, (pn g4 0)), (10, (pn g5 0)), (55, iv n2)] a ∧ Sat w0 none_ [hbox g3 28 [iv goal.X, iv goal.Y, iv goal.Layer], hbox g4 72 [iv g.W, iv g.H, iv g.Layers, .slice g_BlockedA g.Blocked.length g_BlockedC, iv c.Step, iv c.Via, iv c.Turn, iv c.Against, .slice l2A l2.length l2C, .slice A1 (List.replicate ((w64 ((w64 ((w64 (3 * g.W)) * g.H)) * g.Layers)).toNat) (⟨0, 0⟩ : R7Worth)).length ((w64 ((w64 ((w64 (3 * g.W)) * g.H)) * g.Layers)).toNat)], hown 4 l2A l2C l2, hown 60 A1 ((w64 ((w64 ((w64 (3 * g.W)) * g.H)) * g.Layers)).toNat) (List.replicate ((w64 ((w64 ((w64 (3 * g.W)) * g.H)) * g.Layers)).toNat) (⟨0, 0⟩ : R7Worth)), hbox g5 99 [.slice l4A l4.length l4C], hown 102 l4A l4C l4] w) kk ⟨([] : List R7Entry), none, 0, 0, h, ((((hf.nil.cons (hf.get 55 _ rfl)).cons (hf.get 10 _ rfl)).cons (hf.get 7 _ rfl)).cons (hf.get 5 _ rfl)), hs⟩ (fun a w ⟨_, _, _, _, h, _, _⟩ => h) ?_
   clear h hf hs
   rintro kk a w ⟨l4, l4A, l4C, n2, h, hf, hs⟩
   obtain ⟨again2, hagain2⟩ : ∃ X : List R7Entry → Int → Prop, X = (fun l4 n2 => iterF (fun again (s : List R7Entry × Int) => M_ref7_fieldOf_L2 g c goal Q l2 (fun l4 n2 => again (l4, n2)) s.1 s.2) kk (l4, n2)) := ⟨_, rfl⟩
   replace h : M_ref7_fieldOf_L2 g c goal Q l2 again2 l4 n2 := by rw [hagain2]; exact h
   unfold M_ref7_fieldOf_L2 at h
   refine wp_seq (R.list ?_)
   refine S.p hf hs (.bool (decide (n2 < 3))) rfl rfl fun a hf => ?_
   refine R.nil (X.then_ (wp_seq ?_))
   refine C.cond hf (b := decide (n2 < 3)) rfl (fun hc => ?_) (fun hc => ?_)
   ·replace h := h.1 hc
    refine wp_skip (X.then_ (wp_seq (wp_block (wp_seq (R.list ?_)))))
    refine S.p hf hs (iv n2) rfl rfl fun a hf => ?_
    refine S.p hf hs (iv n2) rfl rfl fun a hf => ?_
    refine R.nil (X.then_ (R.list ?_))
    refine S.p hf hs ((pn g5 0)) rfl rfl fun a hf => ?_
    refine S.v hf hs (.agg #[iv 0, iv 1]) rfl (V.build (places := #[(0, 1), (1, 1)]) rfl Try.zeroValue60 Try.runUnderlying60 (by intro w; simp [Try.sizeOf3]) rfl rfl) fun a hf => ?_
    refine S.p hf hs ((pn g4 0)) rfl rfl fun a hf => ?_
    refine S.v hf hs (.agg #[iv goal.X, iv goal.Y, iv goal.Layer]) rfl (V.loadBox 0 rfl rfl rfl Try.isAgg28 Try.sizeOf28 rfl rfl) fun a hf => ?_
    refine S.call hf rfl rfl rfl (call_fn (vs := [(pn g4 0), .agg #[iv goal.X, iv goal.Y, iv goal.Layer]]) rfl rfl rfl Try.call63) (R_field_at (⟨g, c, l2, (List.replicate ((w64 ((w64 ((w64 (3 * g.W)) * g.H)) * g.Layers)).toNat) (⟨0, 0⟩ : R7Worth))⟩ : R7Field) goal _ g_BlockedA g_BlockedC ((Ag.args _ _ _).view hv_g_Blocked hs) l2A l2C (hs.ownView 2 rfl) A1 ((w64 ((w64 ((w64 (3 * g.W)) * g.H)) * g.Layers)).toNat) (hs.ownView 3 rfl) g4 (hs.boxAt 1 rfl) _ h) (fun v a w' hf hr => ?_)
    obtain ⟨y1, rfl, h2, hs2⟩ := hr
    replace h := h2; replace hs := hs.call hs2; clear h2 hs2
    refine S.p hf hs (iv (w64 (3 * y1))) rfl rfl fun a hf => ?_
    refine S.p hf hs (iv n2) rfl rfl fun a hf => ?_
    refine S.p hf hs (iv (w64 ((w64 (3 * y1)) + n2))) rfl rfl fun a hf => ?_
    refine S.v hf hs (.agg #[iv 0, iv 1, iv (w64 ((w64 (3 * y1)) + n2))]) rfl (V.build (places := #[(0, 2), (2, 1)]) rfl Try.zeroValue102 Try.runUnderlying102 (by intro w; simp [Try.sizeOf3, Try.sizeOf60]) rfl rfl) fun a hf => ?_
    replace hs := hs.front 5 rfl
    replace hs := hs.front 5 rfl
    obtain ⟨F1, hsF, hback, hold, hrest⟩ := Sat.callOwns [hbox g5 99 [.slice l4A l4.length l4C], hown 102 l4A l4C l4] (σ := [hbox g3 28 [iv goal.X, iv goal.Y, iv goal.Layer], hbox g4 72 [iv g.W, iv g.H, iv g.Layers, .slice g_BlockedA g.Blocked.length g_BlockedC, iv c.Step, iv c.Via, iv c.Turn, iv c.Against, .slice l2A l2.length l2C, .slice A1 (List.replicate ((w64 ((w64 ((w64 (3 * g.W)) * g.H)) * g.Layers)).toNat) (⟨0, 0⟩ : R7Worth)).length ((w64 ((w64 ((w64 (3 * g.W)) * g.H)) * g.Layers)).toNat)], hown 4 l2A l2C l2, hown 60 A1 ((w64 ((w64 ((w64 (3 * g.W)) * g.H)) * g.Layers)).toNat) (List.replicate ((w64 ((w64 ((w64 (3 * g.W)) * g.H)) * g.Layers)).toNat) (⟨0, 0⟩ : R7Worth))]) hs
    refine S.call hf rfl rfl rfl (call_fn (vs := [(pn g5 0), .agg #[iv 0, iv 1, iv (w64 ((w64 (3 * y1)) + n2))]]) rfl rfl rfl Try.call72) (R_heap7_push (⟨l4⟩ : R7Heap) (⟨(⟨0, 1⟩ : R7Worth), w64 ((w64 (3 * y1)) + n2)⟩ : R7Entry) _ _ g5 l4A l4C hsF _ h) (fun v a w' hf hr => ?_)
    obtain ⟨z1, z1_lA, z1_lC, rfl, h2, hs2⟩ := hr
    replace h := h2; replace hs := hback _ _ hs2; clear h2 hs2 hback hold hrest hsF
    refine R.nil (X.blk (X.then_ (R.list ?_)))
    refine S.p hf hs (iv (w64 (n2 + 1))) rfl rfl fun a hf => ?_
    refine S.p hf hs (iv (w64 (n2 + 1))) rfl rfl fun a hf => ?_
    refine R.nil (X.then_ ?_)
    replace hs := hs.front 1 rfl
    replace hs := hs.front 1 rfl
    replace hs := hs.front 5 rfl
    replace hs := hs.front 5 rfl
    replace hs := hs.front 5 rfl
    replace hs := hs.front 5 rfl
    exact ⟨z1.l, z1_lA, z1_lC, (w64 (n2 + 1)), (by rw [hagain2] at h; exact h), ((((hf.nil.cons (hf.get 55 _ rfl)).cons (hf.get 10 _ rfl)).cons (hf.get 7 _ rfl)).cons (hf.get 5 _ rfl)), hs⟩
   ·replace h := h.2 hc
    refine wp_exit (X.then_exit (X.then_exit (X.blk_exit (X.then_ (wp_seq (R.list ?_))))))
    refine S.p hf hs ((pn g4 0)) rfl rfl fun a hf => ?_
    refine S.p hf hs ((pn g4 0)) rfl rfl fun a hf => ?_
    refine S.v hf hs ((pn g4 9)) rfl (V.fieldBox rfl rfl Try.runUnderlying72 rfl Try.sizeOf70 rfl rfl) fun a hf => ?_
    refine S.v hf hs (.slice A1 (List.replicate ((w64 ((w64 ((w64 (3 * g.W)) * g.H)) * g.Layers)).toNat) (⟨0, 0⟩ : R7Worth)).length ((w64 ((w64 ((w64 (3 * g.W)) * g.H)) * g.Layers)).toNat)) rfl (V.loadBox 1 rfl rfl rfl Try.isAgg70 Try.sizeOf70 rfl rfl) fun a hf => ?_
    refine S.v hf hs (iv ((List.replicate ((w64 ((w64 ((w64 (3 * g.W)) * g.H)) * g.Layers)).toNat) (⟨0, 0⟩ : R7Worth)).length : Int)) rfl (V.len rfl rfl Try.runUnderlying70) fun a hf => ?_
    obtain ⟨hmk, h⟩ := h
    refine S.make hf hs rfl rfl rfl (α := Bool) false (z := ((List.replicate ((w64 ((w64 ((w64 (3 * g.W)) * g.H)) * g.Layers)).toNat) (⟨0, 0⟩ : R7Worth)).length : Int)) (N := (List.replicate ((w64 ((w64 ((w64 (3 * g.W)) * g.H)) * g.Layers)).toNat) (⟨0, 0⟩ : R7Worth)).length) rfl rfl rfl Try.underlying66 info4 hmk rfl (by have := hmk.2; omega) (fun A3 a w hf hs => ?_)
    refine S.p hf hs (.slice A3 (List.replicate ((List.replicate ((w64 ((w64 ((w64 (3 * g.W)) * g.H)) * g.Layers)).toNat) (⟨0, 0⟩ : R7Worth)).length) false).length ((List.replicate ((w64 ((w64 ((w64 (3 * g.W)) * g.H)) * g.Layers)).toNat) (⟨0, 0⟩ : R7Worth)).length)) rfl rfl fun a hf => ?_
    refine R.nil (X.then_ (wp_seq (wp_block ?_)))
    replace hs := hs.front 6 rfl
    replace hs := hs.front 6 rfl
    replace hs := hs.front 6 rfl
    replace hs := hs.front 6 rfl
    replace hs := hs.front 6 rfl
    replace hs := hs.take 6
    obtain ⟨kk, h⟩ := h
    refine C.loop (fun kk a w => ∃ (l8 : List R7Worth) (l8A : Option Addr) (l8C : Nat) (l9 : List R7Entry) (l9A : Option Addr) (l9C : Nat) (l10 : List Bool) (l10A : Option Addr) (l10C : Nat), iterF (fun again (s : List R7Worth × List R7Entry × List Bool) => M_ref7_fieldOf_L3 g c Q l2 (fun l8 l9 l10 => again (l8, l9, l10)) s.1 s.2.1 s.2.2) kk (l8, l9, l10) ∧ FrOk 106 [(7, (pn g4 0)), (10, (pn g5 0)), (12, .slice l10A l10.length l10C)] a ∧ Sat w0 none_ [hbox g4 72 [iv g.W, iv g.H, iv g.Layers, .slice g_BlockedA g.Blocked.length g_BlockedC, iv c.Step, iv c.Via, iv c.Turn, iv c.Against, .slice l2A l2.length l2C, .slice l8A l8.length l8C], hown 4 l2A l2C l2, hown 60 l8A l8C l8, hbox g5 99 [.slice l9A l9.length l9C], hown 102 l9A l9C l9, hown 4 l10A l10C l10] w) kk ⟨(List.replicate ((w64 ((w64 ((w64 (3 * g.W)) * g.H)) * g.Layers)).toNat) (⟨0, 0⟩ : R7Worth)), A1, ((w64 ((w64 ((w64 (3 * g.W)) * g.H)) * g.Layers)).toNat), l4, l4A, l4C, (List.replicate ((List.replicate ((w64 ((w64 ((w64 (3 * g.W)) * g.H)) * g.Layers)).toNat) (⟨0, 0⟩ : R7Worth)).length) false), A3, ((List.replicate ((w64 ((w64 ((w64 (3 * g.W)) * g.H)) * g.Layers)).toNat) (⟨0, 0⟩ : R7Worth)).length), h, (((hf.nil.cons (hf.get 12 _ rfl)).cons (hf.get 10 _ rfl)).cons (hf.get 7 _ rfl)), hs⟩ (fun a w ⟨_, _, _, _, _, _, _, _, _, h, _, _⟩ => h) ?_
    clear h hf hs
    rintro kk a w ⟨l8, l8A, l8C, l9, l9A, l9C, l10, l10A, l10C, h, hf, hs⟩
    obtain ⟨again3, hagain3⟩ : ∃ X : List R7Worth → List R7Entry → List Bool → Prop, X = (fun l8 l9 l10 => iterF (fun again (s : List R7Worth × List R7Entry × List Bool) => M_ref7_fieldOf_L3 g c Q l2 (fun l8 l9 l10 => again (l8, l9, l10)) s.1 s.2.1 s.2.2) kk (l8, l9, l10)) := ⟨_, rfl⟩
    replace h : M_ref7_fieldOf_L3 g c Q l2 again3 l8 l9 l10 := by rw [hagain3]; exact h
    unfold M_ref7_fieldOf_L3 at h
    refine wp_seq (wp_seq (R.list ?_))
    refine S.p hf hs ((pn g5 0)) rfl rfl fun a hf => ?_
    refine S.p hf hs ((pn g5 0)) rfl rfl fun a hf => ?_
    refine S.v hf hs ((pn g5 0)) rfl (V.fieldBox rfl rfl Try.runUnderlying99 rfl Try.sizeOf97 rfl rfl) fun a hf => ?_
    refine S.v hf hs (.slice l9A l9.length l9C) rfl (V.loadBox 3 rfl rfl rfl Try.isAgg97 Try.sizeOf97 rfl rfl) fun a hf => ?_
    refine S.v hf hs (iv (l9.length : Int)) rfl (V.len rfl rfl Try.runUnderlying97) fun a hf => ?_
    refine S.p hf hs (.bool (decide ((l9.length : Int) > 0))) rfl rfl fun a hf => ?_
    refine R.nil (X.then_ ?_)
    refine C.cond hf (b := decide ((l9.length : Int) > 0)) rfl (fun hc => ?_) (fun hc => ?_)
    ·replace h := h.1 hc
     refine wp_skip (X.then_ (wp_block (wp_seq (R.list ?_))))
     refine S.p hf hs ((pn g5 0)) rfl rfl fun a hf => ?_
     replace hs := hs.front 4 rfl
     replace hs := hs.front 4 rfl
     obtain ⟨F1, hsF, hback, hold, hrest⟩ := Sat.callOwns [hbox g5 99 [.slice l9A l9.length l9C], hown 102 l9A l9C l9] (σ := [hbox g4 72 [iv g.W, iv g.H, iv g.Layers, .slice g_BlockedA g.Blocked.length g_BlockedC, iv c.Step, iv c.Via, iv c.Turn, iv c.Against, .slice l2A l2.length l2C, .slice l8A l8.length l8C], hown 4 l2A l2C l2, hown 60 l8A l8C l8, hown 4 l10A l10C l10]) hs
     refine S.call hf rfl rfl rfl (call_fn (vs := [(pn g5 0)]) rfl rfl rfl Try.call73) (R_heap7_pop (⟨l9⟩ : R7Heap) _ _ g5 l9A l9C hsF _ h) (fun v a w' hf hr => ?_)
     obtain ⟨y2, z2, z2_lA, z2_lC, rfl, h2, hs2⟩ := hr
     replace h := h2; replace hs := hback _ _ hs2; clear h2 hs2 hback hold hrest hsF
     refine S.alloc hf hs rfl rfl rfl [iv 0, iv 0, iv 0] rfl Try.zeroValue102 rfl (fun g6 a w hf hs => ?_)
     refine S.storeBox 0 hf hs rfl rfl [iv y2.worth.cost, iv y2.worth.cells, iv y2.state] [iv y2.worth.cost, iv y2.worth.cells, iv y2.state] rfl rfl rfl rfl rfl Try.sizeOf102 rfl rfl rfl rfl (fun a w hf hs => ?_)
     refine R.nil (X.then_ (wp_seq (wp_seq (R.list ?_))))
     refine S.p hf hs (.slice l10A l10.length l10C) rfl rfl fun a hf => ?_
     refine S.v hf hs ((pn g6 2)) rfl (V.fieldBox rfl rfl Try.runUnderlying102 rfl Try.sizeOf3 rfl rfl) fun a hf => ?_
     refine S.v hf hs (iv y2.state) rfl (V.loadBox 0 rfl rfl rfl Try.isAgg3 Try.sizeOf3 rfl rfl) fun a hf => ?_
     obtain ⟨h0x1, x1, hx1, h⟩ := h
     refine S.v hf hs (elemPtr l10A (y2.state.toNat * 1)) rfl (V.index rfl rfl rfl Try.runUnderlying66 Try.sizeOf4 (hs.ownSome 6 rfl (lt_of_get hx1)) h0x1 (lt_of_get hx1) rfl) fun a hf => ?_
     refine S.v hf hs (.bool x1) rfl (V.loadOwn (off := 0) 6 rfl hx1 rfl rfl rfl Try.isAgg4 Try.sizeOf4 rfl rfl) fun a hf => ?_
     refine R.nil (X.then_ ?_)
     refine C.cond hf (b := x1) rfl (fun hc => ?_) (fun hc => ?_)
     ·replace h := h.1 hc
      refine wp_exit (X.then_exit (X.blk_exit (X.then_ ?_)))
      replace hs := hs.front 6 rfl
      replace hs := hs.front 3 rfl
      replace hs := hs.front 3 rfl
      replace hs := hs.front 6 rfl
      replace hs := hs.front 6 rfl
      replace hs := hs.front 6 rfl
      replace hs := hs.take 6
      exact ⟨l8, l8A, l8C, z2.l, z2_lA, z2_lC, l10, l10A, l10C, (by rw [hagain3] at h; exact h), (((hf.nil.cons (hf.get 12 _ rfl)).cons (hf.get 10 _ rfl)).cons (hf.get 7 _ rfl)), hs⟩
     ·replace h := h.2 hc
      refine wp_skip (X.then_ (wp_seq (R.list ?_)))
      refine S.p hf hs (.slice l10A l10.length l10C) rfl rfl fun a hf => ?_
      refine S.v hf hs ((pn g6 2)) rfl (V.fieldBox rfl rfl Try.runUnderlying102 rfl Try.sizeOf3 rfl rfl) fun a hf => ?_
      refine S.v hf hs (iv y2.state) rfl (V.loadBox 0 rfl rfl rfl Try.isAgg3 Try.sizeOf3 rfl rfl) fun a hf => ?_
      refine S.v hf hs (elemPtr l10A (y2.state.toNat * 1)) rfl (V.index rfl rfl rfl Try.runUnderlying66 Try.sizeOf4 (hs.ownSome 6 rfl (lt_of_get hx1)) h0x1 (lt_of_get hx1) rfl) fun a hf => ?_
      refine S.storeOwn (off := 0) 6 hf hs rfl rfl true [.bool true] rfl hx1 rfl rfl rfl rfl rfl Try.sizeOf4 rfl (by decide) rfl rfl (fun a w hf hs => ?_)
      replace hf := hf.tell 12 (v := .slice l10A (l10.set y2.state.toNat true).length l10C) ((hf.get 12 (.slice l10A l10.length l10C) rfl).trans (congrArg (fun n => Value.slice l10A n l10C) List.length_set.symm))
      replace hf := hf.tell 83 (v := .slice l10A (l10.set y2.state.toNat true).length l10C) ((hf.get 83 (.slice l10A l10.length l10C) rfl).trans (congrArg (fun n => Value.slice l10A n l10C) List.length_set.symm))
      replace hf := hf.tell 88 (v := .slice l10A (l10.set y2.state.toNat true).length l10C) ((hf.get 88 (.slice l10A l10.length l10C) rfl).trans (congrArg (fun n => Value.slice l10A n l10C) List.length_set.symm))
      refine R.nil (X.then_ (wp_seq ?_))
      refine M.start 9 (Sat w0 none_ [hbox g6 102 [iv y2.worth.cost, iv y2.worth.cells, iv y2.state], hbox g5 99 [.slice z2_lA z2.l.length z2_lC], hown 102 z2_lA z2_lC z2.l, hbox g4 72 [iv g.W, iv g.H, iv g.Layers, .slice g_BlockedA g.Blocked.length g_BlockedC, iv c.Step, iv c.Via, iv c.Turn, iv c.Against, .slice l2A l2.length l2C, .slice l8A l8.length l8C], hown 4 l2A l2C l2, hown 60 l8A l8C l8, hown 4 l10A l10C (l10.set y2.state.toNat true)]) mo ?_
      replace hs := hs.drew
      refine M.v hf hs ((pn g4 0)) 0 rfl rfl (by kernel_rfl) (V.pure rfl) fun a hf => ?_
      refine M.v hf hs ((pn g4 0)) 1 rfl rfl (by kernel_rfl) (V.pure rfl) fun a hf => ?_
      refine M.v hf hs ((pn g4 9)) 2 rfl rfl (by kernel_rfl) (V.fieldBox rfl rfl Try.runUnderlying72 rfl Try.sizeOf70 rfl rfl) fun a hf => ?_
      refine M.v hf hs (.slice l8A l8.length l8C) 3 rfl rfl (by kernel_rfl) (V.loadBox 3 rfl rfl rfl Try.isAgg70 Try.sizeOf70 rfl rfl) fun a hf => ?_
      refine M.v hf hs ((pn g6 2)) 4 rfl rfl (by kernel_rfl) (V.fieldBox rfl rfl Try.runUnderlying102 rfl Try.sizeOf3 rfl rfl) fun a hf => ?_
      refine M.v hf hs (iv y2.state) 5 rfl rfl (by kernel_rfl) (V.loadBox 0 rfl rfl rfl Try.isAgg3 Try.sizeOf3 rfl rfl) fun a hf => ?_
      refine M.v hf hs ((pn g6 0)) 6 rfl rfl (by kernel_rfl) (V.fieldBox rfl rfl Try.runUnderlying102 rfl Try.sizeOf60 rfl rfl) fun a hf => ?_
      refine M.v hf hs (.agg #[iv y2.worth.cost, iv y2.worth.cells]) 7 rfl rfl (by kernel_rfl) (V.loadBox 0 rfl rfl rfl Try.isAgg60 Try.sizeOf60 rfl rfl) fun a hf => ?_
      obtain ⟨h0x2, x2, hx2, h⟩ := h
      refine M.v hf hs (elemPtr l8A (y2.state.toNat * 2)) 8 rfl rfl (by kernel_rfl) (V.index rfl rfl rfl Try.runUnderlying70 Try.sizeOf60 (hs.ownSome 5 rfl (lt_of_get hx2)) h0x2 (lt_of_get hx2) rfl) fun a hf => ?_
      refine M.last (i := 9) rfl (by kernel_rfl) (by kernel_rfl) ?_
      refine S.storeOwn (off := 0) 5 hf hs rfl rfl y2.worth [iv y2.worth.cost, iv y2.worth.cells] rfl hx2 rfl rfl rfl rfl rfl Try.sizeOf60 rfl (by decide) rfl rfl (fun a w hf hs => ?_)
      replace hs := hs.rebox 3 (vs' := [iv g.W, iv g.H, iv g.Layers, .slice g_BlockedA g.Blocked.length g_BlockedC, iv c.Step, iv c.Via, iv c.Turn, iv c.Against, .slice l2A l2.length l2C, .slice l8A (l8.set y2.state.toNat y2.worth).length l8C]) rfl (congrArg (fun n => [iv g.W, iv g.H, iv g.Layers, .slice g_BlockedA g.Blocked.length g_BlockedC, iv c.Step, iv c.Via, iv c.Turn, iv c.Against, .slice l2A l2.length l2C, Value.slice l8A n l8C]) List.length_set.symm)
      replace hf := hf.tell 95 (v := .slice l8A (l8.set y2.state.toNat y2.worth).length l8C) ((hf.get 95 (.slice l8A l8.length l8C) rfl).trans (congrArg (fun n => Value.slice l8A n l8C) List.length_set.symm))
      refine R.nil (X.then_ ?_)
      refine M.done (by kernel_rfl) ?_
      refine X.then_ (R.list ?_)
      refine S.p hf hs ((pn g4 0)) rfl rfl fun a hf => ?_
      refine S.p hf hs ((pn g5 0)) rfl rfl fun a hf => ?_
      refine S.v hf hs (.agg #[iv y2.worth.cost, iv y2.worth.cells, iv y2.state]) rfl (V.loadBox 0 rfl rfl rfl Try.isAgg102 Try.sizeOf102 rfl rfl) fun a hf => ?_
      replace hs := hs.front 2 rfl
      replace hs := hs.front 2 rfl
      obtain ⟨F1, hsF, hback, hold, hrest⟩ := Sat.callOwns [hbox g5 99 [.slice z2_lA z2.l.length z2_lC], hown 102 z2_lA z2_lC z2.l] (σ := [hbox g6 102 [iv y2.worth.cost, iv y2.worth.cells, iv y2.state], hbox g4 72 [iv g.W, iv g.H, iv g.Layers, .slice g_BlockedA g.Blocked.length g_BlockedC, iv c.Step, iv c.Via, iv c.Turn, iv c.Against, .slice l2A l2.length l2C, .slice l8A (l8.set y2.state.toNat y2.worth).length l8C], hown 4 l2A l2C l2, hown 60 l8A l8C (l8.set y2.state.toNat y2.worth), hown 4 l10A l10C (l10.set y2.state.toNat true)]) hs
      refine S.call hf rfl rfl rfl (call_fn (vs := [(pn g4 0), (pn g5 0), .agg #[iv y2.worth.cost, iv y2.worth.cells, iv y2.state]]) rfl rfl rfl Try.call74) (R_field_spread (⟨g, c, l2, (l8.set y2.state.toNat y2.worth)⟩ : R7Field) z2 y2 _ _ g_BlockedA g_BlockedC (viewArgsF hs hold hv_g_Blocked) l2A l2C (ownViewF hrest 2 rfl) l8A l8C (ownViewF hrest 3 rfl) g4 (boxAtF hrest 1 rfl) g5 z2_lA z2_lC hsF _ h) (fun v a w' hf hr => ?_)
      obtain ⟨z3, z3_lA, z3_lC, rfl, h2, hs2⟩ := hr
      replace h := h2; replace hs := hback _ _ hs2; clear h2 hs2 hback hold hrest hsF
      refine R.nil (X.blk (X.then_ ?_))
      replace hs := hs.front 6 rfl
      replace hs := hs.front 2 rfl
      replace hs := hs.front 2 rfl
      replace hs := hs.front 6 rfl
      replace hs := hs.front 6 rfl
      replace hs := hs.front 6 rfl
      replace hs := hs.take 6
      exact ⟨(l8.set y2.state.toNat y2.worth), l8A, l8C, z3.l, z3_lA, z3_lC, (l10.set y2.state.toNat true), l10A, l10C, (by rw [hagain3] at h; exact h), (((hf.nil.cons (hf.get 12 _ rfl)).cons (hf.get 10 _ rfl)).cons (hf.get 7 _ rfl)), hs⟩
    ·replace h := h.2 hc
     refine wp_exit (X.then_exit (X.then_exit (X.blk_exit (X.then_ (wp_seq (R.list ?_))))))
     refine S.p hf hs ((pn g4 0)) rfl rfl fun a hf => ?_
     refine S.p hf hs ((pn g4 0)) rfl rfl fun a hf => ?_
     refine R.nil (X.then_ (wp_ret ?_))
     replace hs := hs.front 2 rfl
     replace hs := hs.front 2 rfl
     replace hs := hs.front 2 rfl
     replace hs := hs.take 3
     exact L.ret hf (run_results1 Try.results38 (ResIs.tmp hf rfl)) (.inr ⟨(l2, l8), g4, l2A, l2C, l8A, l8C, rfl, h, hs⟩)
  | cons xk1 llk1 =>
   have hltk1 := range_lt hkk1; have hc := range_go hkk1; have hxk1 := range_get hlk1
   obtain ⟨next1, hnext1⟩ : ∃ X : List Bool → Prop, X = (fun l2 => forIn' (fun k x (s : List Bool) next => M_ref7_fieldOf_L1 g c k x s (fun l2 => next l2)) (fun (s : List Bool) => (fun (l2 : List Bool) => lp (fun again (s : List R7Entry × Int) => M_ref7_fieldOf_L2 g c goal Q l2 (fun l4 n2 => again (l4, n2)) s.1 s.2) (([] : List R7Entry), 0)) s) llk1 (k1 + 1) l2) := ⟨_, rfl⟩
   replace h : M_ref7_fieldOf_L1 g c k1 xk1 l2 next1 := by rw [hnext1]; exact h
   unfold M_ref7_fieldOf_L1 at h
   refine wp_seq (R.list ?_)
   refine S.v hf hs (.bool true) rfl (V.cmp true rfl rfl rfl rfl hc) fun a hf => ?_
   refine R.nil (X.then_ (wp_seq ?_))
   refine C.yes hf rfl ?_
   refine wp_skip (X.then_ (wp_seq (wp_block (wp_seq (R.list ?_)))))
   refine S.v hf hs (elemPtr g_BlockedA (k1 * 3)) rfl (V.index rfl rfl rfl Try.runUnderlying22 Try.sizeOf28 (hv_g_Blocked.some_ (lt_of_get hxk1)) (Int.natCast_nonneg _) (lt_of_get hxk1) rfl) fun a hf => ?_
   refine S.v hf hs (.agg #[iv xk1.X, iv xk1.Y, iv xk1.Layer]) rfl (V.loadEl (off := 0) (Ag.args _ _ _) (hv_g_Blocked.flat hxk1) rfl rfl rfl Try.isAgg28 Try.sizeOf28 rfl rfl) fun a hf => ?_
   refine S.alloc hf hs rfl rfl rfl [iv 0, iv 0, iv 0] rfl Try.zeroValue28 rfl (fun g7 a w hf hs => ?_)
   refine S.storeBox 0 hf hs rfl rfl [iv xk1.X, iv xk1.Y, iv xk1.Layer] [iv xk1.X, iv xk1.Y, iv xk1.Layer] rfl rfl rfl rfl rfl Try.sizeOf28 rfl rfl rfl rfl (fun a w hf hs => ?_)
   refine R.nil (X.then_ ?_)
   refine M.start 8 (Sat w0 none_ [hbox g7 28 [iv xk1.X, iv xk1.Y, iv xk1.Layer], hbox g4 72 [iv g.W, iv g.H, iv g.Layers, .slice g_BlockedA g.Blocked.length g_BlockedC, iv c.Step, iv c.Via, iv c.Turn, iv c.Against, .slice l2A l2.length l2C, .slice A1 (List.replicate ((w64 ((w64 ((w64 (3 * g.W)) * g.H)) * g.Layers)).toNat) (⟨0, 0⟩ : R7Worth)).length ((w64 ((w64 ((w64 (3 * g.W)) * g.H)) * g.Layers)).toNat)], hown 4 l2A l2C l2, hown 60 A1 ((w64 ((w64 ((w64 (3 * g.W)) * g.H)) * g.Layers)).toNat) (List.replicate ((w64 ((w64 ((w64 (3 * g.W)) * g.H)) * g.Layers)).toNat) (⟨0, 0⟩ : R7Worth)), hbox g3 28 [iv goal.X, iv goal.Y, iv goal.Layer], hbox g2 26 [iv c.Step, iv c.Via, iv c.Turn, iv c.Against], hbox g1 24 [iv g.W, iv g.H, iv g.Layers, .slice g_BlockedA g.Blocked.length g_BlockedC]]) mo ?_
   replace hs := hs.drew
   refine M.v hf hs ((pn g4 0)) 0 rfl rfl (by kernel_rfl) (V.pure rfl) fun a hf => ?_
   refine M.v hf hs ((pn g4 0)) 1 rfl rfl (by kernel_rfl) (V.pure rfl) fun a hf => ?_
   refine M.v hf hs ((pn g4 8)) 2 rfl rfl (by kernel_rfl) (V.fieldBox rfl rfl Try.runUnderlying72 rfl Try.sizeOf66 rfl rfl) fun a hf => ?_
   refine M.v hf hs (.slice l2A l2.length l2C) 3 rfl rfl (by kernel_rfl) (V.loadBox 1 rfl rfl rfl Try.isAgg66 Try.sizeOf66 rfl rfl) fun a hf => ?_
   refine M.v hf hs ((pn g4 0)) 4 rfl rfl (by kernel_rfl) (V.pure rfl) fun a hf => ?_
   refine M.v hf hs (.agg #[iv xk1.X, iv xk1.Y, iv xk1.Layer]) 5 rfl rfl (by kernel_rfl) (V.loadBox 0 rfl rfl rfl Try.isAgg28 Try.sizeOf28 rfl rfl) fun a hf => ?_
   refine M.one (i := 6) rfl (by kernel_rfl) ?_
   refine S.call hf rfl rfl rfl (call_fn (vs := [(pn g4 0), .agg #[iv xk1.X, iv xk1.Y, iv xk1.Layer]]) rfl rfl rfl Try.call63) (R_field_at (⟨g, c, l2, (List.replicate ((w64 ((w64 ((w64 (3 * g.W)) * g.H)) * g.Layers)).toNat) (⟨0, 0⟩ : R7Worth))⟩ : R7Field) xk1 _ g_BlockedA g_BlockedC ((Ag.args _ _ _).view hv_g_Blocked hs) l2A l2C (hs.ownView 2 rfl) A1 ((w64 ((w64 ((w64 (3 * g.W)) * g.H)) * g.Layers)).toNat) (hs.ownView 3 rfl) g4 (hs.boxAt 1 rfl) _ h) (fun v a w' hf hr => ?_)
   obtain ⟨y3, rfl, h2, hs2⟩ := hr
   replace h := h2; replace hs := hs.call hs2; clear h2 hs2
   refine R.nil (X.then_ ?_)
   refine ⟨hs, ?_⟩
   obtain ⟨h0x3, x3, hx3, h⟩ := h
   refine M.v hf hs (elemPtr l2A (y3.toNat * 1)) 7 rfl rfl (by kernel_rfl) (V.index rfl rfl rfl Try.runUnderlying66 Try.sizeOf4 (hs.ownSome 2 rfl (lt_of_get hx3)) h0x3 (lt_of_get hx3) rfl) fun a hf => ?_
   refine M.last (i := 8) rfl (by kernel_rfl) (by kernel_rfl) ?_
   refine S.storeOwn (off := 0) 2 hf hs rfl rfl true [.bool true] rfl hx3 rfl rfl rfl rfl rfl Try.sizeOf4 rfl (by decide) rfl rfl (fun a w hf hs => ?_)
   replace hs := hs.rebox 1 (vs' := [iv g.W, iv g.H, iv g.Layers, .slice g_BlockedA g.Blocked.length g_BlockedC, iv c.Step, iv c.Via, iv c.Turn, iv c.Against, .slice l2A (l2.set y3.toNat true).length l2C, .slice A1 (List.replicate ((w64 ((w64 ((w64 (3 * g.W)) * g.H)) * g.Layers)).toNat) (⟨0, 0⟩ : R7Worth)).length ((w64 ((w64 ((w64 (3 * g.W)) * g.H)) * g.Layers)).toNat)]) rfl (congrArg (fun n => [iv g.W, iv g.H, iv g.Layers, .slice g_BlockedA g.Blocked.length g_BlockedC, iv c.Step, iv c.Via, iv c.Turn, iv c.Against, Value.slice l2A n l2C, .slice A1 (List.replicate ((w64 ((w64 ((w64 (3 * g.W)) * g.H)) * g.Layers)).toNat) (⟨0, 0⟩ : R7Worth)).length ((w64 ((w64 ((w64 (3 * g.W)) * g.H)) * g.Layers)).toNat)]) List.length_set.symm)
   replace hf := hf.tell 47 (v := .slice l2A (l2.set y3.toNat true).length l2C) ((hf.get 47 (.slice l2A l2.length l2C) rfl).trans (congrArg (fun n => Value.slice l2A n l2C) List.length_set.symm))
   refine R.nil (X.then_ ?_)
   refine M.done (by kernel_rfl) ?_
   refine X.blk (X.then_ (R.list ?_))
   refine S.v hf hs (iv ((k1 + 1 : Nat) : Int)) rfl (V.incr rfl rfl rfl hltk1 hlenk1) fun a hf => ?_
   refine S.p hf hs (iv ((k1 + 1 : Nat) : Int)) rfl rfl fun a hf => ?_
   refine R.nil (X.then_ ?_)
   exact ⟨xk1, llk1, rfl, k1 + 1, (l2.set y3.toNat true), l2A, l2C, range_drop hlk1, range_len hkk1, (by rw [hnext1] at h; exact h), (((((hf.nil.cons (hf.get 39 _ rfl)).cons (hf.get 38 _ rfl)).cons (hf.get 7 _ rfl)).cons (hf.get 5 _ rfl)).cons (hf.get 40 _ rfl)), hs.drop⟩
end Go.Proofs.Ytihjaehkdgdenaa

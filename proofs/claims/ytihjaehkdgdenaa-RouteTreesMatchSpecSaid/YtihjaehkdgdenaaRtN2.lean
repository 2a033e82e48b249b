/- Chapter texts of ours, as far as the claim needs them. -/
import Derived.Test.YtihjaehkdgdenaaRtN
namespace Go.Proofs.Ytihjaehkdgdenaa
open Go Go.RowKit
set_option linter.unusedVariables false
set_option linter.unusedSimpArgs false
set_option linter.unusedVariables false
def M_field_from (f : R7Field) (c : Cell) (Q : R7Worth → Prop) : Prop :=
  M_field_at f c fun y1 => idx f.best (w64 (3 * y1)) fun x1 => Q x1
set_option maxHeartbeats 1000000 in
theorem R_field_from (f : R7Field) (c : Cell) (w0 : World) (f_g_BlockedA : Option Addr) (f_g_BlockedC : Nat) (hv_f_g_Blocked : View w0 (old w0 none_) f_g_BlockedA f_g_BlockedC f.g.Blocked) (f_blockedA : Option Addr) (f_blockedC : Nat) (hv_f_blocked : View w0 (old w0 none_) f_blockedA f_blockedC f.blocked) (f_bestA : Option Addr) (f_bestC : Nat) (hv_f_best : View w0 (old w0 none_) f_bestA f_bestC f.best) (fg : Nat) (hb_f : ElemAt w0 (old w0 none_) (some ⟨fg, 0, none⟩) 0 [iv f.g.W, iv f.g.H, iv f.g.Layers, .slice f_g_BlockedA f.g.Blocked.length f_g_BlockedC, iv f.c.Step, iv f.c.Via, iv f.c.Turn, iv f.c.Against, .slice f_blockedA f.blocked.length f_blockedC, .slice f_bestA f.best.length f_bestC]) (Q : R7Worth → Prop) (h : M_field_from f c Q) :
  Ret Try.prog 39 #[(pn fg 0), .agg #[iv c.X, iv c.Y, iv c.Layer]] w0 fun v w' => ∃ (r0 : R7Worth), v = .agg #[iv r0.cost, iv r0.cells] ∧ Q r0 ∧ Sat w0 none_ [] w' := by
 refine fn_enter Try.func39 rfl Try.ntmps39 rfl (fs := [(0, (pn fg 0)), (1, .agg #[iv c.X, iv c.Y, iv c.Layer])]) rfl (fun a hf => ?_)
 have hs := Sat.start w0 none_
 unfold M_field_from at h
 refine wp_seq (R.list ?_)
 refine S.box hf hs rfl rfl rfl [iv c.X, iv c.Y, iv c.Layer] rfl rfl rfl (fun g1 a w hf hs => ?_)
 refine S.alloc hf hs rfl rfl rfl [iv 0, iv 0] rfl Try.zeroValue60 rfl (fun g2 a w hf hs => ?_)
 refine R.nil (X.then_ (wp_seq ?_))
 refine M.start 10 (Sat w0 none_ [hbox g2 60 [iv 0, iv 0], hbox g1 28 [iv c.X, iv c.Y, iv c.Layer]]) mo ?_
 replace hs := hs.drew
 refine M.v hf hs ((pn fg 0)) 0 rfl rfl (by kernel_rfl) (V.pure rfl) fun a hf => ?_
 refine M.v hf hs ((pn fg 0)) 1 rfl rfl (by kernel_rfl) (V.pure rfl) fun a hf => ?_
 refine M.v hf hs ((pn fg 9)) 2 rfl rfl (by kernel_rfl) (V.fieldBox rfl rfl Try.runUnderlying72 rfl Try.sizeOf70 rfl rfl) fun a hf => ?_
 refine M.v hf hs (.slice f_bestA f.best.length f_bestC) 3 rfl rfl (by kernel_rfl) (V.loadAt0 (off := 9) (Ag.args _ _ _) hb_f rfl rfl Try.isAgg70 Try.sizeOf70 rfl rfl) fun a hf => ?_
 refine M.v hf hs ((pn fg 0)) 4 rfl rfl (by kernel_rfl) (V.pure rfl) fun a hf => ?_
 refine M.v hf hs (.agg #[iv c.X, iv c.Y, iv c.Layer]) 5 rfl rfl (by kernel_rfl) (V.loadBox 1 rfl rfl rfl Try.isAgg28 Try.sizeOf28 rfl rfl) fun a hf => ?_
 refine M.one (i := 6) rfl (by kernel_rfl) ?_
 refine S.call hf rfl rfl rfl (call_fn (vs := [(pn fg 0), .agg #[iv c.X, iv c.Y, iv c.Layer]]) rfl rfl rfl Try.call63) (R_field_at f c _ f_g_BlockedA f_g_BlockedC ((Ag.args _ _ _).view hv_f_g_Blocked hs) f_blockedA f_blockedC ((Ag.args _ _ _).view hv_f_blocked hs) f_bestA f_bestC ((Ag.args _ _ _).view hv_f_best hs) fg ((Ag.args _ _ _).elem hb_f hs) _ h) (fun v a w' hf hr => ?_)
 obtain ⟨y1, rfl, h2, hs2⟩ := hr
 replace h := h2; replace hs := hs.call hs2; clear h2 hs2
 refine R.nil (X.then_ ?_)
 refine ⟨hs, ?_⟩
 refine M.v hf hs (iv (w64 (3 * y1))) 7 rfl rfl (by kernel_rfl) (V.pure rfl) fun a hf => ?_
 obtain ⟨h0x1, x1, hx1, h⟩ := h
 refine M.v hf hs (elemPtr f_bestA ((w64 (3 * y1)).toNat * 2)) 8 rfl rfl (by kernel_rfl) (V.index rfl rfl rfl Try.runUnderlying70 Try.sizeOf60 (hv_f_best.some_ (lt_of_get hx1)) h0x1 (lt_of_get hx1) rfl) fun a hf => ?_
 refine M.v hf hs (.agg #[iv x1.cost, iv x1.cells]) 9 rfl rfl (by kernel_rfl) (V.loadEl (off := 0) (Ag.args _ _ _) (hv_f_best.flat hx1) rfl rfl rfl Try.isAgg60 Try.sizeOf60 rfl rfl) fun a hf => ?_
 refine M.last (i := 10) rfl (by kernel_rfl) (by kernel_rfl) ?_
 refine S.storeBox 0 hf hs rfl rfl [iv x1.cost, iv x1.cells] [iv x1.cost, iv x1.cells] rfl rfl rfl rfl rfl Try.sizeOf60 rfl rfl rfl rfl (fun a w hf hs => ?_)
 refine R.nil (X.then_ ?_)
 refine M.done (by kernel_rfl) ?_
 refine X.then_ (wp_ret ?_)
 have hsR := hs
 exact L.ret hf (run_results1 Try.results39 (ResIs.box hf hsR 0 rfl rfl Try.isAgg60 Try.sizeOf60 rfl rfl)) ⟨x1, rfl, h, hs.nil⟩
set_option linter.unusedVariables false
end Go.Proofs.Ytihjaehkdgdenaa

/- Chapter texts of ours, as far as the claim needs them. -/
import Derived.Test.YtcmlcgjjkccaeaaDoorDoorM
namespace Go.Proofs.YtcmlcgjjkccaeaaDoor
open Go Go.RowKit
set_option linter.unusedVariables false
set_option linter.unusedSimpArgs false
set_option linter.unusedVariables false
def M_ref10_before (b : (List Body)) (p : Place) (q : Place) (Q : Bool → Prop) : Prop :=
  M_ref10_bodyOf b p.Typ fun y1 => idx b y1 fun x1 => M_ref10_bodyOf b q.Typ fun y2 => idx b y2 fun x2 => cnd (!(p.Below == q.Below)) (Q q.Below) (cnd (x1.Tall != x2.Tall) (Q (decide (x1.Tall < x2.Tall))) (cnd (!(x1.Nozzle == x2.Nozzle)) (Q (strLt x1.Nozzle x2.Nozzle)) (Q (strLt p.Part q.Part))))
set_option maxHeartbeats 1000000 in
theorem R_ref10_before (b : (List Body)) (p : Place) (q : Place) (w0 : World) (bA : Option Addr) (bC : Nat) (hv_b : View w0 (old w0 none_) bA bC b) (Q : Bool → Prop) (h : M_ref10_before b p q Q) :
  Ret Tryd.prog 78 #[.slice bA b.length bC, .agg #[.string (ba p.Part), .string (ba p.Typ), iv p.At.X, iv p.At.Y, iv p.Quarters, .bool p.Below], .agg #[.string (ba q.Part), .string (ba q.Typ), iv q.At.X, iv q.At.Y, iv q.Quarters, .bool q.Below]] w0 fun v w' => ∃ (r0 : Bool), v = .bool r0 ∧ Q r0 ∧ Sat w0 none_ [] w' := by
 refine fn_enter Tryd.func78 rfl Tryd.ntmps78 rfl (fs := [(0, .slice bA b.length bC), (1, .agg #[.string (ba p.Part), .string (ba p.Typ), iv p.At.X, iv p.At.Y, iv p.Quarters, .bool p.Below]), (2, .agg #[.string (ba q.Part), .string (ba q.Typ), iv q.At.X, iv q.At.Y, iv q.Quarters, .bool q.Below])]) rfl (fun a hf => ?_)
 have hs := Sat.start w0 none_
 unfold M_ref10_before at h
 refine wp_seq (R.list ?_)
 refine S.box hf hs rfl rfl rfl [.string (ba p.Part), .string (ba p.Typ), iv p.At.X, iv p.At.Y, iv p.Quarters, .bool p.Below] rfl rfl rfl (fun g1 a w hf hs => ?_)
 refine S.box hf hs rfl rfl rfl [.string (ba q.Part), .string (ba q.Typ), iv q.At.X, iv q.At.Y, iv q.Quarters, .bool q.Below] rfl rfl rfl (fun g2 a w hf hs => ?_)
 refine S.p hf hs (.bool false) rfl rfl fun a hf => ?_
 refine R.nil (X.then_ (wp_seq ?_))
 refine H.start (S := Sat w0 none_ [hbox g2 28 [.string (ba q.Part), .string (ba q.Typ), iv q.At.X, iv q.At.Y, iv q.Quarters, .bool q.Below], hbox g1 28 [.string (ba p.Part), .string (ba p.Typ), iv p.At.X, iv p.At.Y, iv p.Quarters, .bool p.Below]]) mo ?_
 replace hs := hs.drew
 refine H.v hf hs (.slice bA b.length bC) 0 rfl rfl (by kernel_rfl) (V.pure rfl) fun a hf => ?_
 refine H.v hf hs (.slice bA b.length bC) 1 rfl rfl (by kernel_rfl) (V.pure rfl) fun a hf => ?_
 refine H.v hf hs ((pn g1 1)) 2 rfl rfl (by kernel_rfl) (V.fieldBox rfl rfl Tryd.runUnderlying28 rfl Tryd.sizeOf9 rfl rfl) fun a hf => ?_
 refine H.v hf hs (.string (ba p.Typ)) 3 rfl rfl (by kernel_rfl) (V.loadBox 1 rfl rfl rfl Tryd.isAgg9 Tryd.sizeOf9 rfl rfl) fun a hf => ?_
 refine H.v hf hs (.slice bA b.length bC) 7 rfl rfl (by kernel_rfl) (V.pure rfl) fun a hf => ?_
 refine H.v hf hs (.slice bA b.length bC) 8 rfl rfl (by kernel_rfl) (V.pure rfl) fun a hf => ?_
 refine H.v hf hs ((pn g2 1)) 9 rfl rfl (by kernel_rfl) (V.fieldBox rfl rfl Tryd.runUnderlying28 rfl Tryd.sizeOf9 rfl rfl) fun a hf => ?_
 refine H.v hf hs (.string (ba q.Typ)) 10 rfl rfl (by kernel_rfl) (V.loadBox 0 rfl rfl rfl Tryd.isAgg9 Tryd.sizeOf9 rfl rfl) fun a hf => ?_
 refine H.each3 (i0 := 4) (i1 := 14) (i2 := 15) rfl rfl rfl (by kernel_rfl) ?_ ?_ ?_
 ·refine S.call hf rfl rfl rfl (call_fn (vs := [.slice bA b.length bC, .string (ba p.Typ)]) rfl rfl rfl Tryd.call66) (R_ref10_bodyOf b p.Typ _ bA bC ((Ag.args _ _ _).view hv_b hs) _ h) (fun v a w' hf hr => ?_)
  obtain ⟨y1, rfl, h2, hs2⟩ := hr
  replace h := h2; replace hs := hs.call hs2; clear h2 hs2
  refine R.nil (X.then_ ?_)
  refine ⟨hs, ?_⟩
  obtain ⟨h0x1, x1, hx1, h⟩ := h
  refine H.v hf hs (elemPtr bA (y1.toNat * 5)) 5 rfl rfl (by kernel_rfl) (V.index rfl rfl rfl Tryd.runUnderlying22 Tryd.sizeOf95 (hv_b.some_ (lt_of_get hx1)) h0x1 (lt_of_get hx1) rfl) fun a hf => ?_
  refine H.v hf hs (.agg #[.string (ba x1.Typ), iv x1.W, iv x1.H, iv x1.Tall, .string (ba x1.Nozzle)]) 6 rfl rfl (by kernel_rfl) (V.loadEl (off := 0) (Ag.args _ _ _) (hv_b.flat hx1) rfl rfl rfl Tryd.isAgg95 Tryd.sizeOf95 rfl rfl) fun a hf => ?_
  refine H.each3 (i0 := 11) (i1 := 14) (i2 := 15) rfl rfl rfl (by kernel_rfl) ?_ ?_ ?_
  ·refine S.call hf rfl rfl rfl (call_fn (vs := [.slice bA b.length bC, .string (ba q.Typ)]) rfl rfl rfl Tryd.call66) (R_ref10_bodyOf b q.Typ _ bA bC ((Ag.args _ _ _).view hv_b hs) _ h) (fun v a w' hf hr => ?_)
   obtain ⟨y2, rfl, h2, hs2⟩ := hr
   replace h := h2; replace hs := hs.call hs2; clear h2 hs2
   refine R.nil (X.then_ ?_)
   refine ⟨hs, ?_⟩
   obtain ⟨h0x2, x2, hx2, h⟩ := h
   refine H.v hf hs (elemPtr bA (y2.toNat * 5)) 12 rfl rfl (by kernel_rfl) (V.index rfl rfl rfl Tryd.runUnderlying22 Tryd.sizeOf95 (hv_b.some_ (lt_of_get hx2)) h0x2 (lt_of_get hx2) rfl) fun a hf => ?_
   refine H.v hf hs (.agg #[.string (ba x2.Typ), iv x2.W, iv x2.H, iv x2.Tall, .string (ba x2.Nozzle)]) 13 rfl rfl (by kernel_rfl) (V.loadEl (off := 0) (Ag.args _ _ _) (hv_b.flat hx2) rfl rfl rfl Tryd.isAgg95 Tryd.sizeOf95 rfl rfl) fun a hf => ?_
   refine H.alloc2 (i := 14) (j := 15) hf hs (fun w hs => hs) rfl rfl rfl rfl rfl rfl rfl rfl (fun _ => rfl) rfl (fun _ => rfl) (by kernel_rfl) (by kernel_rfl) (by kernel_rfl) (by kernel_rfl) [.string (ba []), iv 0, iv 0, iv 0, .string (ba [])] [.string (ba []), iv 0, iv 0, iv 0, .string (ba [])] rfl rfl Tryd.zeroValue95 rfl Tryd.zeroValue95 rfl (fun g3 g4 a w hf hs => ?_)
   refine H.one (i := 16) rfl (by kernel_rfl) ?_
   refine S.storeBox 1 hf hs rfl rfl [.string (ba x1.Typ), iv x1.W, iv x1.H, iv x1.Tall, .string (ba x1.Nozzle)] [.string (ba x1.Typ), iv x1.W, iv x1.H, iv x1.Tall, .string (ba x1.Nozzle)] rfl rfl rfl rfl rfl Tryd.sizeOf95 rfl rfl rfl rfl (fun a w hf hs => ?_)
   refine R.nil (X.then_ ?_)
   refine ⟨(hs.mask [false, false, true, true]), ?_⟩
   refine H.one (i := 17) rfl (by kernel_rfl) ?_
   refine S.storeBox 0 hf hs rfl rfl [.string (ba x2.Typ), iv x2.W, iv x2.H, iv x2.Tall, .string (ba x2.Nozzle)] [.string (ba x2.Typ), iv x2.W, iv x2.H, iv x2.Tall, .string (ba x2.Nozzle)] rfl rfl rfl rfl rfl Tryd.sizeOf95 rfl rfl rfl rfl (fun a w hf hs => ?_)
   refine R.nil (X.then_ ?_)
   refine ⟨(hs.mask [false, false, true, true]), ?_⟩
   refine H.done (by kernel_rfl) ?_
   refine X.then_ (wp_seq (wp_block (wp_seq (R.list ?_))))
   refine S.v hf hs ((pn g1 5)) rfl (V.fieldBox rfl rfl Tryd.runUnderlying28 rfl Tryd.sizeOf4 rfl rfl) fun a hf => ?_
   refine S.v hf hs (.bool p.Below) rfl (V.loadBox 3 rfl rfl rfl Tryd.isAgg4 Tryd.sizeOf4 rfl rfl) fun a hf => ?_
   refine S.v hf hs ((pn g2 5)) rfl (V.fieldBox rfl rfl Tryd.runUnderlying28 rfl Tryd.sizeOf4 rfl rfl) fun a hf => ?_
   refine S.v hf hs (.bool q.Below) rfl (V.loadBox 2 rfl rfl rfl Tryd.isAgg4 Tryd.sizeOf4 rfl rfl) fun a hf => ?_
   refine S.v hf hs (.bool (!(p.Below == q.Below))) rfl (V.boolEq rfl rfl rfl Tryd.underlying4 rfl) fun a hf => ?_
   refine S.p hf hs (.bool (!(p.Below == q.Below))) rfl rfl fun a hf => ?_
   refine R.nil (X.then_ ?_)
   refine C.cond hf (b := !(p.Below == q.Below)) rfl (fun hc => ?_) (fun hc => ?_)
   ·replace h := h.1 hc
    refine wp_seq (R.list ?_)
    refine S.v hf hs ((pn g2 5)) rfl (V.fieldBox rfl rfl Tryd.runUnderlying28 rfl Tryd.sizeOf4 rfl rfl) fun a hf => ?_
    refine S.v hf hs (.bool q.Below) rfl (V.loadBox 2 rfl rfl rfl Tryd.isAgg4 Tryd.sizeOf4 rfl rfl) fun a hf => ?_
    refine S.p hf hs (.bool q.Below) rfl rfl fun a hf => ?_
    refine R.nil (X.then_ (wp_ret (X.blk_ret (X.then_ret ?_))))
    exact L.ret hf (run_results1 Tryd.results78 (ResIs.tmp hf rfl)) ⟨q.Below, rfl, h, hs.nil⟩
   ·replace h := h.2 hc
    refine wp_seq (R.list ?_)
    refine S.v hf hs ((pn g3 3)) rfl (V.fieldBox rfl rfl Tryd.runUnderlying95 rfl Tryd.sizeOf3 rfl rfl) fun a hf => ?_
    refine S.v hf hs (iv x1.Tall) rfl (V.loadBox 1 rfl rfl rfl Tryd.isAgg3 Tryd.sizeOf3 rfl rfl) fun a hf => ?_
    refine S.v hf hs ((pn g4 3)) rfl (V.fieldBox rfl rfl Tryd.runUnderlying95 rfl Tryd.sizeOf3 rfl rfl) fun a hf => ?_
    refine S.v hf hs (iv x2.Tall) rfl (V.loadBox 0 rfl rfl rfl Tryd.isAgg3 Tryd.sizeOf3 rfl rfl) fun a hf => ?_
    refine S.p hf hs (.bool (x1.Tall != x2.Tall)) rfl rfl fun a hf => ?_
    refine S.p hf hs (.bool (x1.Tall != x2.Tall)) rfl rfl fun a hf => ?_
    refine R.nil (X.then_ ?_)
    refine C.cond hf (b := x1.Tall != x2.Tall) rfl (fun hc => ?_) (fun hc => ?_)
    ·replace h := h.1 hc
     refine wp_seq (R.list ?_)
     refine S.v hf hs ((pn g3 3)) rfl (V.fieldBox rfl rfl Tryd.runUnderlying95 rfl Tryd.sizeOf3 rfl rfl) fun a hf => ?_
     refine S.v hf hs (iv x1.Tall) rfl (V.loadBox 1 rfl rfl rfl Tryd.isAgg3 Tryd.sizeOf3 rfl rfl) fun a hf => ?_
     refine S.v hf hs ((pn g4 3)) rfl (V.fieldBox rfl rfl Tryd.runUnderlying95 rfl Tryd.sizeOf3 rfl rfl) fun a hf => ?_
     refine S.v hf hs (iv x2.Tall) rfl (V.loadBox 0 rfl rfl rfl Tryd.isAgg3 Tryd.sizeOf3 rfl rfl) fun a hf => ?_
     refine S.p hf hs (.bool (decide (x1.Tall < x2.Tall))) rfl rfl fun a hf => ?_
     refine S.p hf hs (.bool (decide (x1.Tall < x2.Tall))) rfl rfl fun a hf => ?_
     refine R.nil (X.then_ (wp_ret (X.blk_ret (X.then_ret ?_))))
     exact L.ret hf (run_results1 Tryd.results78 (ResIs.tmp hf rfl)) ⟨(decide (x1.Tall < x2.Tall)), rfl, h, hs.nil⟩
    ·replace h := h.2 hc
     refine wp_seq (R.list ?_)
     refine S.v hf hs ((pn g3 4)) rfl (V.fieldBox rfl rfl Tryd.runUnderlying95 rfl Tryd.sizeOf9 rfl rfl) fun a hf => ?_
     refine S.v hf hs (.string (ba x1.Nozzle)) rfl (V.loadBox 1 rfl rfl rfl Tryd.isAgg9 Tryd.sizeOf9 rfl rfl) fun a hf => ?_
     refine S.v hf hs ((pn g4 4)) rfl (V.fieldBox rfl rfl Tryd.runUnderlying95 rfl Tryd.sizeOf9 rfl rfl) fun a hf => ?_
     refine S.v hf hs (.string (ba x2.Nozzle)) rfl (V.loadBox 0 rfl rfl rfl Tryd.isAgg9 Tryd.sizeOf9 rfl rfl) fun a hf => ?_
     refine S.v hf hs (.bool (!(x1.Nozzle == x2.Nozzle))) rfl (V.strCmp (!(x1.Nozzle == x2.Nozzle)) rfl rfl rfl rfl) fun a hf => ?_
     refine S.p hf hs (.bool (!(x1.Nozzle == x2.Nozzle))) rfl rfl fun a hf => ?_
     refine R.nil (X.then_ ?_)
     refine C.cond hf (b := !(x1.Nozzle == x2.Nozzle)) rfl (fun hc => ?_) (fun hc => ?_)
     ·replace h := h.1 hc
      refine wp_seq (R.list ?_)
      refine S.v hf hs ((pn g3 4)) rfl (V.fieldBox rfl rfl Tryd.runUnderlying95 rfl Tryd.sizeOf9 rfl rfl) fun a hf => ?_
      refine S.v hf hs (.string (ba x1.Nozzle)) rfl (V.loadBox 1 rfl rfl rfl Tryd.isAgg9 Tryd.sizeOf9 rfl rfl) fun a hf => ?_
      refine S.v hf hs ((pn g4 4)) rfl (V.fieldBox rfl rfl Tryd.runUnderlying95 rfl Tryd.sizeOf9 rfl rfl) fun a hf => ?_
      refine S.v hf hs (.string (ba x2.Nozzle)) rfl (V.loadBox 0 rfl rfl rfl Tryd.isAgg9 Tryd.sizeOf9 rfl rfl) fun a hf => ?_
      refine S.v hf hs (.bool (strLt x1.Nozzle x2.Nozzle)) rfl (V.strCmp (strLt x1.Nozzle x2.Nozzle) rfl rfl rfl rfl) fun a hf => ?_
      refine S.p hf hs (.bool (strLt x1.Nozzle x2.Nozzle)) rfl rfl fun a hf => ?_
      refine R.nil (X.then_ (wp_ret (X.blk_ret (X.then_ret ?_))))
      exact L.ret hf (run_results1 Tryd.results78 (ResIs.tmp hf rfl)) ⟨(strLt x1.Nozzle x2.Nozzle), rfl, h, hs.nil⟩
     ·replace h := h.2 hc
      refine wp_skip (X.blk (X.then_ (wp_seq (R.list ?_))))
      refine S.v hf hs ((pn g1 0)) rfl (V.fieldBox rfl rfl Tryd.runUnderlying28 rfl Tryd.sizeOf9 rfl rfl) fun a hf => ?_
      refine S.v hf hs (.string (ba p.Part)) rfl (V.loadBox 3 rfl rfl rfl Tryd.isAgg9 Tryd.sizeOf9 rfl rfl) fun a hf => ?_
      refine S.v hf hs ((pn g2 0)) rfl (V.fieldBox rfl rfl Tryd.runUnderlying28 rfl Tryd.sizeOf9 rfl rfl) fun a hf => ?_
      refine S.v hf hs (.string (ba q.Part)) rfl (V.loadBox 2 rfl rfl rfl Tryd.isAgg9 Tryd.sizeOf9 rfl rfl) fun a hf => ?_
      refine S.v hf hs (.bool (strLt p.Part q.Part)) rfl (V.strCmp (strLt p.Part q.Part) rfl rfl rfl rfl) fun a hf => ?_
      refine S.p hf hs (.bool (strLt p.Part q.Part)) rfl rfl fun a hf => ?_
      refine R.nil (X.then_ (wp_ret ?_))
      exact L.ret hf (run_results1 Tryd.results78 (ResIs.tmp hf rfl)) ⟨(strLt p.Part q.Part), rfl, h, hs.nil⟩
  ·refine S.alloc hf hs rfl rfl rfl [.string (ba []), iv 0, iv 0, iv 0, .string (ba [])] rfl Tryd.zeroValue95 rfl (fun g3 a w hf hs => ?_)
   refine R.nil (X.then_ ?_)
   refine ⟨(hs.mask [false, true, true]), ?_⟩
   refine H.each2 (i0 := 11) (i1 := 15) rfl rfl (by kernel_rfl) ?_ ?_
   ·refine S.call hf rfl rfl rfl (call_fn (vs := [.slice bA b.length bC, .string (ba q.Typ)]) rfl rfl rfl Tryd.call66) (R_ref10_bodyOf b q.Typ _ bA bC ((Ag.args _ _ _).view hv_b hs) _ h) (fun v a w' hf hr => ?_)
    obtain ⟨y2, rfl, h2, hs2⟩ := hr
    replace h := h2; replace hs := hs.call hs2; clear h2 hs2
    refine R.nil (X.then_ ?_)
    refine ⟨(hs.mask [false, true, true]), ?_⟩
    obtain ⟨h0x2, x2, hx2, h⟩ := h
    refine H.val hf (hs.mask [false, true, true]) (v := elemPtr bA (y2.toNat * 5)) (i := 12) rfl rfl rfl rfl (by kernel_rfl) (by kernel_rfl) (by kernel_rfl) (V.index rfl rfl rfl Tryd.runUnderlying22 Tryd.sizeOf95 (hv_b.some_ (lt_of_get hx2)) h0x2 (lt_of_get hx2) rfl) (fun a hf => ?_)
    refine H.val hf (hs.mask [false, true, true]) (v := .agg #[.string (ba x2.Typ), iv x2.W, iv x2.H, iv x2.Tall, .string (ba x2.Nozzle)]) (i := 13) rfl rfl rfl rfl (by kernel_rfl) (by kernel_rfl) (by kernel_rfl) (V.loadEl (off := 0) (Ag.args _ _ _) (hv_b.flat hx2) rfl rfl rfl Tryd.isAgg95 Tryd.sizeOf95 rfl rfl) (fun a hf => ?_)
    refine H.one (i := 15) rfl (by kernel_rfl) ?_
    refine S.alloc hf hs rfl rfl rfl [.string (ba []), iv 0, iv 0, iv 0, .string (ba [])] rfl Tryd.zeroValue95 rfl (fun g4 a w hf hs => ?_)
    refine R.nil (X.then_ ?_)
    refine ⟨(hs.mask [false, false, true, true]), ?_⟩
    refine H.one (i := 16) rfl (by kernel_rfl) ?_
    refine S.storeBox 1 hf hs rfl rfl [.string (ba x1.Typ), iv x1.W, iv x1.H, iv x1.Tall, .string (ba x1.Nozzle)] [.string (ba x1.Typ), iv x1.W, iv x1.H, iv x1.Tall, .string (ba x1.Nozzle)] rfl rfl rfl rfl rfl Tryd.sizeOf95 rfl rfl rfl rfl (fun a w hf hs => ?_)
    refine R.nil (X.then_ ?_)
    refine ⟨(hs.mask [false, false, true, true]), ?_⟩
    refine H.one (i := 17) rfl (by kernel_rfl) ?_
    refine S.storeBox 0 hf hs rfl rfl [.string (ba x2.Typ), iv x2.W, iv x2.H, iv x2.Tall, .string (ba x2.Nozzle)] [.string (ba x2.Typ), iv x2.W, iv x2.H, iv x2.Tall, .string (ba x2.Nozzle)] rfl rfl rfl rfl rfl Tryd.sizeOf95 rfl rfl rfl rfl (fun a w hf hs => ?_)
    refine R.nil (X.then_ ?_)
    refine ⟨(hs.mask [false, false, true, true]), ?_⟩
    refine H.done (by kernel_rfl) ?_
    refine X.then_ (wp_seq (wp_block (wp_seq (R.list ?_))))
    refine S.v hf hs ((pn g1 5)) rfl (V.fieldBox rfl rfl Tryd.runUnderlying28 rfl Tryd.sizeOf4 rfl rfl) fun a hf => ?_
    refine S.v hf hs (.bool p.Below) rfl (V.loadBox 3 rfl rfl rfl Tryd.isAgg4 Tryd.sizeOf4 rfl rfl) fun a hf => ?_
    refine S.v hf hs ((pn g2 5)) rfl (V.fieldBox rfl rfl Tryd.runUnderlying28 rfl Tryd.sizeOf4 rfl rfl) fun a hf => ?_
    refine S.v hf hs (.bool q.Below) rfl (V.loadBox 2 rfl rfl rfl Tryd.isAgg4 Tryd.sizeOf4 rfl rfl) fun a hf => ?_
    refine S.v hf hs (.bool (!(p.Below == q.Below))) rfl (V.boolEq rfl rfl rfl Tryd.underlying4 rfl) fun a hf => ?_
    refine S.p hf hs (.bool (!(p.Below == q.Below))) rfl rfl fun a hf => ?_
    refine R.nil (X.then_ ?_)
    refine C.cond hf (b := !(p.Below == q.Below)) rfl (fun hc => ?_) (fun hc => ?_)
    ·replace h := h.1 hc
     refine wp_seq (R.list ?_)
     refine S.v hf hs ((pn g2 5)) rfl (V.fieldBox rfl rfl Tryd.runUnderlying28 rfl Tryd.sizeOf4 rfl rfl) fun a hf => ?_
     refine S.v hf hs (.bool q.Below) rfl (V.loadBox 2 rfl rfl rfl Tryd.isAgg4 Tryd.sizeOf4 rfl rfl) fun a hf => ?_
     refine S.p hf hs (.bool q.Below) rfl rfl fun a hf => ?_
     refine R.nil (X.then_ (wp_ret (X.blk_ret (X.then_ret ?_))))
     exact L.ret hf (run_results1 Tryd.results78 (ResIs.tmp hf rfl)) ⟨q.Below, rfl, h, hs.nil⟩
    ·replace h := h.2 hc
     refine wp_seq (R.list ?_)
     refine S.v hf hs ((pn g3 3)) rfl (V.fieldBox rfl rfl Tryd.runUnderlying95 rfl Tryd.sizeOf3 rfl rfl) fun a hf => ?_
     refine S.v hf hs (iv x1.Tall) rfl (V.loadBox 1 rfl rfl rfl Tryd.isAgg3 Tryd.sizeOf3 rfl rfl) fun a hf => ?_
     refine S.v hf hs ((pn g4 3)) rfl (V.fieldBox rfl rfl Tryd.runUnderlying95 rfl Tryd.sizeOf3 rfl rfl) fun a hf => ?_
     refine S.v hf hs (iv x2.Tall) rfl (V.loadBox 0 rfl rfl rfl Tryd.isAgg3 Tryd.sizeOf3 rfl rfl) fun a hf => ?_
     refine S.p hf hs (.bool (x1.Tall != x2.Tall)) rfl rfl fun a hf => ?_
     refine S.p hf hs (.bool (x1.Tall != x2.Tall)) rfl rfl fun a hf => ?_
     refine R.nil (X.then_ ?_)
     refine C.cond hf (b := x1.Tall != x2.Tall) rfl (fun hc => ?_) (fun hc => ?_)
     ·replace h := h.1 hc
      refine wp_seq (R.list ?_)
      refine S.v hf hs ((pn g3 3)) rfl (V.fieldBox rfl rfl Tryd.runUnderlying95 rfl Tryd.sizeOf3 rfl rfl) fun a hf => ?_
      refine S.v hf hs (iv x1.Tall) rfl (V.loadBox 1 rfl rfl rfl Tryd.isAgg3 Tryd.sizeOf3 rfl rfl) fun a hf => ?_
      refine S.v hf hs ((pn g4 3)) rfl (V.fieldBox rfl rfl Tryd.runUnderlying95 rfl Tryd.sizeOf3 rfl rfl) fun a hf => ?_
      refine S.v hf hs (iv x2.Tall) rfl (V.loadBox 0 rfl rfl rfl Tryd.isAgg3 Tryd.sizeOf3 rfl rfl) fun a hf => ?_
      refine S.p hf hs (.bool (decide (x1.Tall < x2.Tall))) rfl rfl fun a hf => ?_
      refine S.p hf hs (.bool (decide (x1.Tall < x2.Tall))) rfl rfl fun a hf => ?_
      refine R.nil (X.then_ (wp_ret (X.blk_ret (X.then_ret ?_))))
      exact L.ret hf (run_results1 Tryd.results78 (ResIs.tmp hf rfl)) ⟨(decide (x1.Tall < x2.Tall)), rfl, h, hs.nil⟩
     ·replace h := h.2 hc
      refine wp_seq (R.list ?_)
      refine S.v hf hs ((pn g3 4)) rfl (V.fieldBox rfl rfl Tryd.runUnderlying95 rfl Tryd.sizeOf9 rfl rfl) fun a hf => ?_
      refine S.v hf hs (.string (ba x1.Nozzle)) rfl (V.loadBox 1 rfl rfl rfl Tryd.isAgg9 Tryd.sizeOf9 rfl rfl) fun a hf => ?_
      refine S.v hf hs ((pn g4 4)) rfl (V.fieldBox rfl rfl Tryd.runUnderlying95 rfl Tryd.sizeOf9 rfl rfl) fun a hf => ?_
      refine S.v hf hs (.string (ba x2.Nozzle)) rfl (V.loadBox 0 rfl rfl rfl Tryd.isAgg9 Tryd.sizeOf9 rfl rfl) fun a hf => ?_
      refine S.v hf hs (.bool (!(x1.Nozzle == x2.Nozzle))) rfl (V.strCmp (!(x1.Nozzle == x2.Nozzle)) rfl rfl rfl rfl) fun a hf => ?_
      refine S.p hf hs (.bool (!(x1.Nozzle == x2.Nozzle))) rfl rfl fun a hf => ?_
      refine R.nil (X.then_ ?_)
      refine C.cond hf (b := !(x1.Nozzle == x2.Nozzle)) rfl (fun hc => ?_) (fun hc => ?_)
      ·replace h := h.1 hc
       refine wp_seq (R.list ?_)
       refine S.v hf hs ((pn g3 4)) rfl (V.fieldBox rfl rfl Tryd.runUnderlying95 rfl Tryd.sizeOf9 rfl rfl) fun a hf => ?_
       refine S.v hf hs (.string (ba x1.Nozzle)) rfl (V.loadBox 1 rfl rfl rfl Tryd.isAgg9 Tryd.sizeOf9 rfl rfl) fun a hf => ?_
       refine S.v hf hs ((pn g4 4)) rfl (V.fieldBox rfl rfl Tryd.runUnderlying95 rfl Tryd.sizeOf9 rfl rfl) fun a hf => ?_
       refine S.v hf hs (.string (ba x2.Nozzle)) rfl (V.loadBox 0 rfl rfl rfl Tryd.isAgg9 Tryd.sizeOf9 rfl rfl) fun a hf => ?_
       refine S.v hf hs (.bool (strLt x1.Nozzle x2.Nozzle)) rfl (V.strCmp (strLt x1.Nozzle x2.Nozzle) rfl rfl rfl rfl) fun a hf => ?_
       refine S.p hf hs (.bool (strLt x1.Nozzle x2.Nozzle)) rfl rfl fun a hf => ?_
       refine R.nil (X.then_ (wp_ret (X.blk_ret (X.then_ret ?_))))
       exact L.ret hf (run_results1 Tryd.results78 (ResIs.tmp hf rfl)) ⟨(strLt x1.Nozzle x2.Nozzle), rfl, h, hs.nil⟩
      ·replace h := h.2 hc
       refine wp_skip (X.blk (X.then_ (wp_seq (R.list ?_))))
       refine S.v hf hs ((pn g1 0)) rfl (V.fieldBox rfl rfl Tryd.runUnderlying28 rfl Tryd.sizeOf9 rfl rfl) fun a hf => ?_
       refine S.v hf hs (.string (ba p.Part)) rfl (V.loadBox 3 rfl rfl rfl Tryd.isAgg9 Tryd.sizeOf9 rfl rfl) fun a hf => ?_
       refine S.v hf hs ((pn g2 0)) rfl (V.fieldBox rfl rfl Tryd.runUnderlying28 rfl Tryd.sizeOf9 rfl rfl) fun a hf => ?_
       refine S.v hf hs (.string (ba q.Part)) rfl (V.loadBox 2 rfl rfl rfl Tryd.isAgg9 Tryd.sizeOf9 rfl rfl) fun a hf => ?_
       refine S.v hf hs (.bool (strLt p.Part q.Part)) rfl (V.strCmp (strLt p.Part q.Part) rfl rfl rfl rfl) fun a hf => ?_
       refine S.p hf hs (.bool (strLt p.Part q.Part)) rfl rfl fun a hf => ?_
       refine R.nil (X.then_ (wp_ret ?_))
       exact L.ret hf (run_results1 Tryd.results78 (ResIs.tmp hf rfl)) ⟨(strLt p.Part q.Part), rfl, h, hs.nil⟩
   ·refine S.alloc hf hs rfl rfl rfl [.string (ba []), iv 0, iv 0, iv 0, .string (ba [])] rfl Tryd.zeroValue95 rfl (fun g4 a w hf hs => ?_)
    refine R.nil (X.then_ ?_)
    refine ⟨(hs.mask [false, false, true, true]), ?_⟩
    refine H.one (i := 11) rfl (by kernel_rfl) ?_
    refine S.call hf rfl rfl rfl (call_fn (vs := [.slice bA b.length bC, .string (ba q.Typ)]) rfl rfl rfl Tryd.call66) (R_ref10_bodyOf b q.Typ _ bA bC ((Ag.args _ _ _).view hv_b hs) _ h) (fun v a w' hf hr => ?_)
    obtain ⟨y2, rfl, h2, hs2⟩ := hr
    replace h := h2; replace hs := hs.call hs2; clear h2 hs2
    refine R.nil (X.then_ ?_)
    refine ⟨(hs.mask [false, false, true, true]), ?_⟩
    obtain ⟨h0x2, x2, hx2, h⟩ := h
    refine H.val hf (hs.mask [false, false, true, true]) (v := elemPtr bA (y2.toNat * 5)) (i := 12) rfl rfl rfl rfl (by kernel_rfl) (by kernel_rfl) (by kernel_rfl) (V.index rfl rfl rfl Tryd.runUnderlying22 Tryd.sizeOf95 (hv_b.some_ (lt_of_get hx2)) h0x2 (lt_of_get hx2) rfl) (fun a hf => ?_)
    refine H.val hf (hs.mask [false, false, true, true]) (v := .agg #[.string (ba x2.Typ), iv x2.W, iv x2.H, iv x2.Tall, .string (ba x2.Nozzle)]) (i := 13) rfl rfl rfl rfl (by kernel_rfl) (by kernel_rfl) (by kernel_rfl) (V.loadEl (off := 0) (Ag.args _ _ _) (hv_b.flat hx2) rfl rfl rfl Tryd.isAgg95 Tryd.sizeOf95 rfl rfl) (fun a hf => ?_)
    refine H.one (i := 16) rfl (by kernel_rfl) ?_
    refine S.storeBox 1 hf hs rfl rfl [.string (ba x1.Typ), iv x1.W, iv x1.H, iv x1.Tall, .string (ba x1.Nozzle)] [.string (ba x1.Typ), iv x1.W, iv x1.H, iv x1.Tall, .string (ba x1.Nozzle)] rfl rfl rfl rfl rfl Tryd.sizeOf95 rfl rfl rfl rfl (fun a w hf hs => ?_)
    refine R.nil (X.then_ ?_)
    refine ⟨(hs.mask [false, false, true, true]), ?_⟩
    refine H.one (i := 17) rfl (by kernel_rfl) ?_
    refine S.storeBox 0 hf hs rfl rfl [.string (ba x2.Typ), iv x2.W, iv x2.H, iv x2.Tall, .string (ba x2.Nozzle)] [.string (ba x2.Typ), iv x2.W, iv x2.H, iv x2.Tall, .string (ba x2.Nozzle)] rfl rfl rfl rfl rfl Tryd.sizeOf95 rfl rfl rfl rfl (fun a w hf hs => ?_)
    refine R.nil (X.then_ ?_)
    refine ⟨(hs.mask [false, false, true, true]), ?_⟩
    refine H.done (by kernel_rfl) ?_
    refine X.then_ (wp_seq (wp_block (wp_seq (R.list ?_))))
    refine S.v hf hs ((pn g1 5)) rfl (V.fieldBox rfl rfl Tryd.runUnderlying28 rfl Tryd.sizeOf4 rfl rfl) fun a hf => ?_
    refine S.v hf hs (.bool p.Below) rfl (V.loadBox 3 rfl rfl rfl Tryd.isAgg4 Tryd.sizeOf4 rfl rfl) fun a hf => ?_
    refine S.v hf hs ((pn g2 5)) rfl (V.fieldBox rfl rfl Tryd.runUnderlying28 rfl Tryd.sizeOf4 rfl rfl) fun a hf => ?_
    refine S.v hf hs (.bool q.Below) rfl (V.loadBox 2 rfl rfl rfl Tryd.isAgg4 Tryd.sizeOf4 rfl rfl) fun a hf => ?_
    refine S.v hf hs (.bool (!(p.Below == q.Below))) rfl (V.boolEq rfl rfl rfl Tryd.underlying4 rfl) fun a hf => ?_
    refine S.p hf hs (.bool (!(p.Below == q.Below))) rfl rfl fun a hf => ?_
    refine R.nil (X.then_ ?_)
    refine C.cond hf (b := !(p.Below == q.Below)) rfl (fun hc => ?_) (fun hc => ?_)
    ·replace h := h.1 hc
     refine wp_seq (R.list ?_)
     refine S.v hf hs ((pn g2 5)) rfl (V.fieldBox rfl rfl Tryd.runUnderlying28 rfl Tryd.sizeOf4 rfl rfl) fun a hf => ?_
     refine S.v hf hs (.bool q.Below) rfl (V.loadBox 2 rfl rfl rfl Tryd.isAgg4 Tryd.sizeOf4 rfl rfl) fun a hf => ?_
     refine S.p hf hs (.bool q.Below) rfl rfl fun a hf => ?_
     refine R.nil (X.then_ (wp_ret (X.blk_ret (X.then_ret ?_))))
     exact L.ret hf (run_results1 Tryd.results78 (ResIs.tmp hf rfl)) ⟨q.Below, rfl, h, hs.nil⟩
    ·replace h := h.2 hc
     refine wp_seq (R.list ?_)
     refine S.v hf hs ((pn g3 3)) rfl (V.fieldBox rfl rfl Tryd.runUnderlying95 rfl Tryd.sizeOf3 rfl rfl) fun a hf => ?_
     refine S.v hf hs (iv x1.Tall) rfl (V.loadBox 1 rfl rfl rfl Tryd.isAgg3 Tryd.sizeOf3 rfl rfl) fun a hf => ?_
     refine S.v hf hs ((pn g4 3)) rfl (V.fieldBox rfl rfl Tryd.runUnderlying95 rfl Tryd.sizeOf3 rfl rfl) fun a hf => ?_
     refine S.v hf hs (iv x2.Tall) rfl (V.loadBox 0 rfl rfl rfl Tryd.isAgg3 Tryd.sizeOf3 rfl rfl) fun a hf => ?_
     refine S.p hf hs (.bool (x1.Tall != x2.Tall)) rfl rfl fun a hf => ?_
     refine S.p hf hs (.bool (x1.Tall != x2.Tall)) rfl rfl fun a hf => ?_
     refine R.nil (X.then_ ?_)
     refine C.cond hf (b := x1.Tall != x2.Tall) rfl (fun hc => ?_) (fun hc => ?_)
     ·replace h := h.1 hc
      refine wp_seq (R.list ?_)
      refine S.v hf hs ((pn g3 3)) rfl (V.fieldBox rfl rfl Tryd.runUnderlying95 rfl Tryd.sizeOf3 rfl rfl) fun a hf => ?_
      refine S.v hf hs (iv x1.Tall) rfl (V.loadBox 1 rfl rfl rfl Tryd.isAgg3 Tryd.sizeOf3 rfl rfl) fun a hf => ?_
      refine S.v hf hs ((pn g4 3)) rfl (V.fieldBox rfl rfl Tryd.runUnderlying95 rfl Tryd.sizeOf3 rfl rfl) fun a hf => ?_
      refine S.v hf hs (iv x2.Tall) rfl (V.loadBox 0 rfl rfl rfl Tryd.isAgg3 Tryd.sizeOf3 rfl rfl) fun a hf => ?_
      refine S.p hf hs (.bool (decide (x1.Tall < x2.Tall))) rfl rfl fun a hf => ?_
      refine S.p hf hs (.bool (decide (x1.Tall < x2.Tall))) rfl rfl fun a hf => ?_
      refine R.nil (X.then_ (wp_ret (X.blk_ret (X.then_ret ?_))))
      exact L.ret hf (run_results1 Tryd.results78 (ResIs.tmp hf rfl)) ⟨(decide (x1.Tall < x2.Tall)), rfl, h, hs.nil⟩
     ·replace h := h.2 hc
      refine wp_seq (R.list ?_)
      refine S.v hf hs ((pn g3 4)) rfl (V.fieldBox rfl rfl Tryd.runUnderlying95 rfl Tryd.sizeOf9 rfl rfl) fun a hf => ?_
      refine S.v hf hs (.string (ba x1.Nozzle)) rfl (V.loadBox 1 rfl rfl rfl Tryd.isAgg9 Tryd.sizeOf9 rfl rfl) fun a hf => ?_
      refine S.v hf hs ((pn g4 4)) rfl (V.fieldBox rfl rfl Tryd.runUnderlying95 rfl Tryd.sizeOf9 rfl rfl) fun a hf => ?_
      refine S.v hf hs (.string (ba x2.Nozzle)) rfl (V.loadBox 0 rfl rfl rfl Tryd.isAgg9 Tryd.sizeOf9 rfl rfl) fun a hf => ?_
      refine S.v hf hs (.bool (!(x1.Nozzle == x2.Nozzle))) rfl (V.strCmp (!(x1.Nozzle == x2.Nozzle)) rfl rfl rfl rfl) fun a hf => ?_
      refine S.p hf hs (.bool (!(x1.Nozzle == x2.Nozzle))) rfl rfl fun a hf => ?_
      refine R.nil (X.then_ ?_)
      refine C.cond hf (b := !(x1.Nozzle == x2.Nozzle)) rfl (fun hc => ?_) (fun hc => ?_)
      ·replace h := h.1 hc
       refine wp_seq (R.list ?_)
       refine S.v hf hs ((pn g3 4)) rfl (V.fieldBox rfl rfl Tryd.runUnderlying95 rfl Tryd.sizeOf9 rfl rfl) fun a hf => ?_
       refine S.v hf hs (.string (ba x1.Nozzle)) rfl (V.loadBox 1 rfl rfl rfl Tryd.isAgg9 Tryd.sizeOf9 rfl rfl) fun a hf => ?_
       refine S.v hf hs ((pn g4 4)) rfl (V.fieldBox rfl rfl Tryd.runUnderlying95 rfl Tryd.sizeOf9 rfl rfl) fun a hf => ?_
       refine S.v hf hs (.string (ba x2.Nozzle)) rfl (V.loadBox 0 rfl rfl rfl Tryd.isAgg9 Tryd.sizeOf9 rfl rfl) fun a hf => ?_
       refine S.v hf hs (.bool (strLt x1.Nozzle x2.Nozzle)) rfl (V.strCmp (strLt x1.Nozzle x2.Nozzle) rfl rfl rfl rfl) fun a hf => ?_
       refine S.p hf hs (.bool (strLt x1.Nozzle x2.Nozzle)) rfl rfl fun a hf => ?_
       refine R.nil (X.then_ (wp_ret (X.blk_ret (X.then_ret ?_))))
       exact L.ret hf (run_results1 Tryd.results78 (ResIs.tmp hf rfl)) ⟨(strLt x1.Nozzle x2.Nozzle), rfl, h, hs.nil⟩
      ·replace h := h.2 hc
       refine wp_skip (X.blk (X.then_ (wp_seq (R.list ?_))))
       refine S.v hf hs ((pn g1 0)) rfl (V.fieldBox rfl rfl Tryd.runUnderlying28 rfl Tryd.sizeOf9 rfl rfl) fun a hf => ?_
       refine S.v hf hs (.string (ba p.Part)) rfl (V.loadBox 3 rfl rfl rfl Tryd.isAgg9 Tryd.sizeOf9 rfl rfl) fun a hf => ?_
       refine S.v hf hs ((pn g2 0)) rfl (V.fieldBox rfl rfl Tryd.runUnderlying28 rfl Tryd.sizeOf9 rfl rfl) fun a hf => ?_
       refine S.v hf hs (.string (ba q.Part)) rfl (V.loadBox 2 rfl rfl rfl Tryd.isAgg9 Tryd.sizeOf9 rfl rfl) fun a hf => ?_
       refine S.v hf hs (.bool (strLt p.Part q.Part)) rfl (V.strCmp (strLt p.Part q.Part) rfl rfl rfl rfl) fun a hf => ?_
       refine S.p hf hs (.bool (strLt p.Part q.Part)) rfl rfl fun a hf => ?_
       refine R.nil (X.then_ (wp_ret ?_))
       exact L.ret hf (run_results1 Tryd.results78 (ResIs.tmp hf rfl)) ⟨(strLt p.Part q.Part), rfl, h, hs.nil⟩
  ·refine S.alloc hf hs rfl rfl rfl [.string (ba []), iv 0, iv 0, iv 0, .string (ba [])] rfl Tryd.zeroValue95 rfl (fun g3 a w hf hs => ?_)
   refine R.nil (X.then_ ?_)
   refine ⟨(hs.mask [false, true, true]), ?_⟩
   refine H.each2 (i0 := 11) (i1 := 14) rfl rfl (by kernel_rfl) ?_ ?_
   ·refine S.call hf rfl rfl rfl (call_fn (vs := [.slice bA b.length bC, .string (ba q.Typ)]) rfl rfl rfl Tryd.call66) (R_ref10_bodyOf b q.Typ _ bA bC ((Ag.args _ _ _).view hv_b hs) _ h) (fun v a w' hf hr => ?_)
    obtain ⟨y2, rfl, h2, hs2⟩ := hr
    replace h := h2; replace hs := hs.call hs2; clear h2 hs2
    refine R.nil (X.then_ ?_)
    refine ⟨(hs.mask [false, true, true]), ?_⟩
    obtain ⟨h0x2, x2, hx2, h⟩ := h
    refine H.val hf (hs.mask [false, true, true]) (v := elemPtr bA (y2.toNat * 5)) (i := 12) rfl rfl rfl rfl (by kernel_rfl) (by kernel_rfl) (by kernel_rfl) (V.index rfl rfl rfl Tryd.runUnderlying22 Tryd.sizeOf95 (hv_b.some_ (lt_of_get hx2)) h0x2 (lt_of_get hx2) rfl) (fun a hf => ?_)
    refine H.val hf (hs.mask [false, true, true]) (v := .agg #[.string (ba x2.Typ), iv x2.W, iv x2.H, iv x2.Tall, .string (ba x2.Nozzle)]) (i := 13) rfl rfl rfl rfl (by kernel_rfl) (by kernel_rfl) (by kernel_rfl) (V.loadEl (off := 0) (Ag.args _ _ _) (hv_b.flat hx2) rfl rfl rfl Tryd.isAgg95 Tryd.sizeOf95 rfl rfl) (fun a hf => ?_)
    refine H.one (i := 14) rfl (by kernel_rfl) ?_
    refine S.alloc hf hs rfl rfl rfl [.string (ba []), iv 0, iv 0, iv 0, .string (ba [])] rfl Tryd.zeroValue95 rfl (fun g4 a w hf hs => ?_)
    refine R.nil (X.then_ ?_)
    refine ⟨(hs.mask [false, false, true, true]), ?_⟩
    refine H.one (i := 16) rfl (by kernel_rfl) ?_
    refine S.storeBox 0 hf hs rfl rfl [.string (ba x1.Typ), iv x1.W, iv x1.H, iv x1.Tall, .string (ba x1.Nozzle)] [.string (ba x1.Typ), iv x1.W, iv x1.H, iv x1.Tall, .string (ba x1.Nozzle)] rfl rfl rfl rfl rfl Tryd.sizeOf95 rfl rfl rfl rfl (fun a w hf hs => ?_)
    refine R.nil (X.then_ ?_)
    refine ⟨(hs.mask [false, false, true, true]), ?_⟩
    refine H.one (i := 17) rfl (by kernel_rfl) ?_
    refine S.storeBox 1 hf hs rfl rfl [.string (ba x2.Typ), iv x2.W, iv x2.H, iv x2.Tall, .string (ba x2.Nozzle)] [.string (ba x2.Typ), iv x2.W, iv x2.H, iv x2.Tall, .string (ba x2.Nozzle)] rfl rfl rfl rfl rfl Tryd.sizeOf95 rfl rfl rfl rfl (fun a w hf hs => ?_)
    refine R.nil (X.then_ ?_)
    refine ⟨(hs.mask [false, false, true, true]), ?_⟩
    refine H.done (by kernel_rfl) ?_
    refine X.then_ (wp_seq (wp_block (wp_seq (R.list ?_))))
    refine S.v hf hs ((pn g1 5)) rfl (V.fieldBox rfl rfl Tryd.runUnderlying28 rfl Tryd.sizeOf4 rfl rfl) fun a hf => ?_
    refine S.v hf hs (.bool p.Below) rfl (V.loadBox 3 rfl rfl rfl Tryd.isAgg4 Tryd.sizeOf4 rfl rfl) fun a hf => ?_
    refine S.v hf hs ((pn g2 5)) rfl (V.fieldBox rfl rfl Tryd.runUnderlying28 rfl Tryd.sizeOf4 rfl rfl) fun a hf => ?_
    refine S.v hf hs (.bool q.Below) rfl (V.loadBox 2 rfl rfl rfl Tryd.isAgg4 Tryd.sizeOf4 rfl rfl) fun a hf => ?_
    refine S.v hf hs (.bool (!(p.Below == q.Below))) rfl (V.boolEq rfl rfl rfl Tryd.underlying4 rfl) fun a hf => ?_
    refine S.p hf hs (.bool (!(p.Below == q.Below))) rfl rfl fun a hf => ?_
    refine R.nil (X.then_ ?_)
    refine C.cond hf (b := !(p.Below == q.Below)) rfl (fun hc => ?_) (fun hc => ?_)
    ·replace h := h.1 hc
     refine wp_seq (R.list ?_)
     refine S.v hf hs ((pn g2 5)) rfl (V.fieldBox rfl rfl Tryd.runUnderlying28 rfl Tryd.sizeOf4 rfl rfl) fun a hf => ?_
     refine S.v hf hs (.bool q.Below) rfl (V.loadBox 2 rfl rfl rfl Tryd.isAgg4 Tryd.sizeOf4 rfl rfl) fun a hf => ?_
     refine S.p hf hs (.bool q.Below) rfl rfl fun a hf => ?_
     refine R.nil (X.then_ (wp_ret (X.blk_ret (X.then_ret ?_))))
     exact L.ret hf (run_results1 Tryd.results78 (ResIs.tmp hf rfl)) ⟨q.Below, rfl, h, hs.nil⟩
    ·replace h := h.2 hc
     refine wp_seq (R.list ?_)
     refine S.v hf hs ((pn g4 3)) rfl (V.fieldBox rfl rfl Tryd.runUnderlying95 rfl Tryd.sizeOf3 rfl rfl) fun a hf => ?_
     refine S.v hf hs (iv x1.Tall) rfl (V.loadBox 0 rfl rfl rfl Tryd.isAgg3 Tryd.sizeOf3 rfl rfl) fun a hf => ?_
     refine S.v hf hs ((pn g3 3)) rfl (V.fieldBox rfl rfl Tryd.runUnderlying95 rfl Tryd.sizeOf3 rfl rfl) fun a hf => ?_
     refine S.v hf hs (iv x2.Tall) rfl (V.loadBox 1 rfl rfl rfl Tryd.isAgg3 Tryd.sizeOf3 rfl rfl) fun a hf => ?_
     refine S.p hf hs (.bool (x1.Tall != x2.Tall)) rfl rfl fun a hf => ?_
     refine S.p hf hs (.bool (x1.Tall != x2.Tall)) rfl rfl fun a hf => ?_
     refine R.nil (X.then_ ?_)
     refine C.cond hf (b := x1.Tall != x2.Tall) rfl (fun hc => ?_) (fun hc => ?_)
     ·replace h := h.1 hc
      refine wp_seq (R.list ?_)
      refine S.v hf hs ((pn g4 3)) rfl (V.fieldBox rfl rfl Tryd.runUnderlying95 rfl Tryd.sizeOf3 rfl rfl) fun a hf => ?_
      refine S.v hf hs (iv x1.Tall) rfl (V.loadBox 0 rfl rfl rfl Tryd.isAgg3 Tryd.sizeOf3 rfl rfl) fun a hf => ?_
      refine S.v hf hs ((pn g3 3)) rfl (V.fieldBox rfl rfl Tryd.runUnderlying95 rfl Tryd.sizeOf3 rfl rfl) fun a hf => ?_
      refine S.v hf hs (iv x2.Tall) rfl (V.loadBox 1 rfl rfl rfl Tryd.isAgg3 Tryd.sizeOf3 rfl rfl) fun a hf => ?_
      refine S.p hf hs (.bool (decide (x1.Tall < x2.Tall))) rfl rfl fun a hf => ?_
      refine S.p hf hs (.bool (decide (x1.Tall < x2.Tall))) rfl rfl fun a hf => ?_
      refine R.nil (X.then_ (wp_ret (X.blk_ret (X.then_ret ?_))))
      exact L.ret hf (run_results1 Tryd.results78 (ResIs.tmp hf rfl)) ⟨(decide (x1.Tall < x2.Tall)), rfl, h, hs.nil⟩
     ·replace h := h.2 hc
      refine wp_seq (R.list ?_)
      refine S.v hf hs ((pn g4 4)) rfl (V.fieldBox rfl rfl Tryd.runUnderlying95 rfl Tryd.sizeOf9 rfl rfl) fun a hf => ?_
      refine S.v hf hs (.string (ba x1.Nozzle)) rfl (V.loadBox 0 rfl rfl rfl Tryd.isAgg9 Tryd.sizeOf9 rfl rfl) fun a hf => ?_
      refine S.v hf hs ((pn g3 4)) rfl (V.fieldBox rfl rfl Tryd.runUnderlying95 rfl Tryd.sizeOf9 rfl rfl) fun a hf => ?_
      refine S.v hf hs (.string (ba x2.Nozzle)) rfl (V.loadBox 1 rfl rfl rfl Tryd.isAgg9 Tryd.sizeOf9 rfl rfl) fun a hf => ?_
      refine S.v hf hs (.bool (!(x1.Nozzle == x2.Nozzle))) rfl (V.strCmp (!(x1.Nozzle == x2.Nozzle)) rfl rfl rfl rfl) fun a hf => ?_
      refine S.p hf hs (.bool (!(x1.Nozzle == x2.Nozzle))) rfl rfl fun a hf => ?_
      refine R.nil (X.then_ ?_)
      refine C.cond hf (b := !(x1.Nozzle == x2.Nozzle)) rfl (fun hc => ?_) (fun hc => ?_)
      ·replace h := h.1 hc
       refine wp_seq (R.list ?_)
       refine S.v hf hs ((pn g4 4)) rfl (V.fieldBox rfl rfl Tryd.runUnderlying95 rfl Tryd.sizeOf9 rfl rfl) fun a hf => ?_
       refine S.v hf hs (.string (ba x1.Nozzle)) rfl (V.loadBox 0 rfl rfl rfl Tryd.isAgg9 Tryd.sizeOf9 rfl rfl) fun a hf => ?_
       refine S.v hf hs ((pn g3 4)) rfl (V.fieldBox rfl rfl Tryd.runUnderlying95 rfl Tryd.sizeOf9 rfl rfl) fun a hf => ?_
       refine S.v hf hs (.string (ba x2.Nozzle)) rfl (V.loadBox 1 rfl rfl rfl Tryd.isAgg9 Tryd.sizeOf9 rfl rfl) fun a hf => ?_
       refine S.v hf hs (.bool (strLt x1.Nozzle x2.Nozzle)) rfl (V.strCmp (strLt x1.Nozzle x2.Nozzle) rfl rfl rfl rfl) fun a hf => ?_
       refine S.p hf hs (.bool (strLt x1.Nozzle x2.Nozzle)) rfl rfl fun a hf => ?_
       refine R.nil (X.then_ (wp_ret (X.blk_ret (X.then_ret ?_))))
       exact L.ret hf (run_results1 Tryd.results78 (ResIs.tmp hf rfl)) ⟨(strLt x1.Nozzle x2.Nozzle), rfl, h, hs.nil⟩
      ·replace h := h.2 hc
       refine wp_skip (X.blk (X.then_ (wp_seq (R.list ?_))))
       refine S.v hf hs ((pn g1 0)) rfl (V.fieldBox rfl rfl Tryd.runUnderlying28 rfl Tryd.sizeOf9 rfl rfl) fun a hf => ?_
       refine S.v hf hs (.string (ba p.Part)) rfl (V.loadBox 3 rfl rfl rfl Tryd.isAgg9 Tryd.sizeOf9 rfl rfl) fun a hf => ?_
       refine S.v hf hs ((pn g2 0)) rfl (V.fieldBox rfl rfl Tryd.runUnderlying28 rfl Tryd.sizeOf9 rfl rfl) fun a hf => ?_
       refine S.v hf hs (.string (ba q.Part)) rfl (V.loadBox 2 rfl rfl rfl Tryd.isAgg9 Tryd.sizeOf9 rfl rfl) fun a hf => ?_
       refine S.v hf hs (.bool (strLt p.Part q.Part)) rfl (V.strCmp (strLt p.Part q.Part) rfl rfl rfl rfl) fun a hf => ?_
       refine S.p hf hs (.bool (strLt p.Part q.Part)) rfl rfl fun a hf => ?_
       refine R.nil (X.then_ (wp_ret ?_))
       exact L.ret hf (run_results1 Tryd.results78 (ResIs.tmp hf rfl)) ⟨(strLt p.Part q.Part), rfl, h, hs.nil⟩
   ·refine S.alloc hf hs rfl rfl rfl [.string (ba []), iv 0, iv 0, iv 0, .string (ba [])] rfl Tryd.zeroValue95 rfl (fun g4 a w hf hs => ?_)
    refine R.nil (X.then_ ?_)
    refine ⟨(hs.mask [false, false, true, true]), ?_⟩
    refine H.one (i := 11) rfl (by kernel_rfl) ?_
    refine S.call hf rfl rfl rfl (call_fn (vs := [.slice bA b.length bC, .string (ba q.Typ)]) rfl rfl rfl Tryd.call66) (R_ref10_bodyOf b q.Typ _ bA bC ((Ag.args _ _ _).view hv_b hs) _ h) (fun v a w' hf hr => ?_)
    obtain ⟨y2, rfl, h2, hs2⟩ := hr
    replace h := h2; replace hs := hs.call hs2; clear h2 hs2
    refine R.nil (X.then_ ?_)
    refine ⟨(hs.mask [false, false, true, true]), ?_⟩
    obtain ⟨h0x2, x2, hx2, h⟩ := h
    refine H.val hf (hs.mask [false, false, true, true]) (v := elemPtr bA (y2.toNat * 5)) (i := 12) rfl rfl rfl rfl (by kernel_rfl) (by kernel_rfl) (by kernel_rfl) (V.index rfl rfl rfl Tryd.runUnderlying22 Tryd.sizeOf95 (hv_b.some_ (lt_of_get hx2)) h0x2 (lt_of_get hx2) rfl) (fun a hf => ?_)
    refine H.val hf (hs.mask [false, false, true, true]) (v := .agg #[.string (ba x2.Typ), iv x2.W, iv x2.H, iv x2.Tall, .string (ba x2.Nozzle)]) (i := 13) rfl rfl rfl rfl (by kernel_rfl) (by kernel_rfl) (by kernel_rfl) (V.loadEl (off := 0) (Ag.args _ _ _) (hv_b.flat hx2) rfl rfl rfl Tryd.isAgg95 Tryd.sizeOf95 rfl rfl) (fun a hf => ?_)
    refine H.one (i := 16) rfl (by kernel_rfl) ?_
    refine S.storeBox 0 hf hs rfl rfl [.string (ba x1.Typ), iv x1.W, iv x1.H, iv x1.Tall, .string (ba x1.Nozzle)] [.string (ba x1.Typ), iv x1.W, iv x1.H, iv x1.Tall, .string (ba x1.Nozzle)] rfl rfl rfl rfl rfl Tryd.sizeOf95 rfl rfl rfl rfl (fun a w hf hs => ?_)
    refine R.nil (X.then_ ?_)
    refine ⟨(hs.mask [false, false, true, true]), ?_⟩
    refine H.one (i := 17) rfl (by kernel_rfl) ?_
    refine S.storeBox 1 hf hs rfl rfl [.string (ba x2.Typ), iv x2.W, iv x2.H, iv x2.Tall, .string (ba x2.Nozzle)] [.string (ba x2.Typ), iv x2.W, iv x2.H, iv x2.Tall, .string (ba x2.Nozzle)] rfl rfl rfl rfl rfl Tryd.sizeOf95 rfl rfl rfl rfl (fun a w hf hs => ?_)
    refine R.nil (X.then_ ?_)
    refine ⟨(hs.mask [false, false, true, true]), ?_⟩
    refine H.done (by kernel_rfl) ?_
    refine X.then_ (wp_seq (wp_block (wp_seq (R.list ?_))))
    refine S.v hf hs ((pn g1 5)) rfl (V.fieldBox rfl rfl Tryd.runUnderlying28 rfl Tryd.sizeOf4 rfl rfl) fun a hf => ?_
    refine S.v hf hs (.bool p.Below) rfl (V.loadBox 3 rfl rfl rfl Tryd.isAgg4 Tryd.sizeOf4 rfl rfl) fun a hf => ?_
    refine S.v hf hs ((pn g2 5)) rfl (V.fieldBox rfl rfl Tryd.runUnderlying28 rfl Tryd.sizeOf4 rfl rfl) fun a hf => ?_
    refine S.v hf hs (.bool q.Below) rfl (V.loadBox 2 rfl rfl rfl Tryd.isAgg4 Tryd.sizeOf4 rfl rfl) fun a hf => ?_
    refine S.v hf hs (.bool (!(p.Below == q.Below))) rfl (V.boolEq rfl rfl rfl Tryd.underlying4 rfl) fun a hf => ?_
    refine S.p hf hs (.bool (!(p.Below == q.Below))) rfl rfl fun a hf => ?_
    refine R.nil (X.then_ ?_)
    refine C.cond hf (b := !(p.Below == q.Below)) rfl (fun hc => ?_) (fun hc => ?_)
    ·replace h := h.1 hc
     refine wp_seq (R.list ?_)
     refine S.v hf hs ((pn g2 5)) rfl (V.fieldBox rfl rfl Tryd.runUnderlying28 rfl Tryd.sizeOf4 rfl rfl) fun a hf => ?_
     refine S.v hf hs (.bool q.Below) rfl (V.loadBox 2 rfl rfl rfl Tryd.isAgg4 Tryd.sizeOf4 rfl rfl) fun a hf => ?_
     refine S.p hf hs (.bool q.Below) rfl rfl fun a hf => ?_
     refine R.nil (X.then_ (wp_ret (X.blk_ret (X.then_ret ?_))))
     exact L.ret hf (run_results1 Tryd.results78 (ResIs.tmp hf rfl)) ⟨q.Below, rfl, h, hs.nil⟩
    ·replace h := h.2 hc
     refine wp_seq (R.list ?_)
     refine S.v hf hs ((pn g4 3)) rfl (V.fieldBox rfl rfl Tryd.runUnderlying95 rfl Tryd.sizeOf3 rfl rfl) fun a hf => ?_
     refine S.v hf hs (iv x1.Tall) rfl (V.loadBox 0 rfl rfl rfl Tryd.isAgg3 Tryd.sizeOf3 rfl rfl) fun a hf => ?_
     refine S.v hf hs ((pn g3 3)) rfl (V.fieldBox rfl rfl Tryd.runUnderlying95 rfl Tryd.sizeOf3 rfl rfl) fun a hf => ?_
     refine S.v hf hs (iv x2.Tall) rfl (V.loadBox 1 rfl rfl rfl Tryd.isAgg3 Tryd.sizeOf3 rfl rfl) fun a hf => ?_
     refine S.p hf hs (.bool (x1.Tall != x2.Tall)) rfl rfl fun a hf => ?_
     refine S.p hf hs (.bool (x1.Tall != x2.Tall)) rfl rfl fun a hf => ?_
     refine R.nil (X.then_ ?_)
     refine C.cond hf (b := x1.Tall != x2.Tall) rfl (fun hc => ?_) (fun hc => ?_)
     ·replace h := h.1 hc
      refine wp_seq (R.list ?_)
      refine S.v hf hs ((pn g4 3)) rfl (V.fieldBox rfl rfl Tryd.runUnderlying95 rfl Tryd.sizeOf3 rfl rfl) fun a hf => ?_
      refine S.v hf hs (iv x1.Tall) rfl (V.loadBox 0 rfl rfl rfl Tryd.isAgg3 Tryd.sizeOf3 rfl rfl) fun a hf => ?_
      refine S.v hf hs ((pn g3 3)) rfl (V.fieldBox rfl rfl Tryd.runUnderlying95 rfl Tryd.sizeOf3 rfl rfl) fun a hf => ?_
      refine S.v hf hs (iv x2.Tall) rfl (V.loadBox 1 rfl rfl rfl Tryd.isAgg3 Tryd.sizeOf3 rfl rfl) fun a hf => ?_
      refine S.p hf hs (.bool (decide (x1.Tall < x2.Tall))) rfl rfl fun a hf => ?_
      refine S.p hf hs (.bool (decide (x1.Tall < x2.Tall))) rfl rfl fun a hf => ?_
      refine R.nil (X.then_ (wp_ret (X.blk_ret (X.then_ret ?_))))
      exact L.ret hf (run_results1 Tryd.results78 (ResIs.tmp hf rfl)) ⟨(decide (x1.Tall < x2.Tall)), rfl, h, hs.nil⟩
     ·replace h := h.2 hc
      refine wp_seq (R.list ?_)
      refine S.v hf hs ((pn g4 4)) rfl (V.fieldBox rfl rfl Tryd.runUnderlying95 rfl Tryd.sizeOf9 rfl rfl) fun a hf => ?_
      refine S.v hf hs (.string (ba x1.Nozzle)) rfl (V.loadBox 0 rfl rfl rfl Tryd.isAgg9 Tryd.sizeOf9 rfl rfl) fun a hf => ?_
      refine S.v hf hs ((pn g3 4)) rfl (V.fieldBox rfl rfl Tryd.runUnderlying95 rfl Tryd.sizeOf9 rfl rfl) fun a hf => ?_
      refine S.v hf hs (.string (ba x2.Nozzle)) rfl (V.loadBox 1 rfl rfl rfl Tryd.isAgg9 Tryd.sizeOf9 rfl rfl) fun a hf => ?_
      refine S.v hf hs (.bool (!(x1.Nozzle == x2.Nozzle))) rfl (V.strCmp (!(x1.Nozzle == x2.Nozzle)) rfl rfl rfl rfl) fun a hf => ?_
      refine S.p hf hs (.bool (!(x1.Nozzle == x2.Nozzle))) rfl rfl fun a hf => ?_
      refine R.nil (X.then_ ?_)
      refine C.cond hf (b := !(x1.Nozzle == x2.Nozzle)) rfl (fun hc => ?_) (fun hc => ?_)
      ·replace h := h.1 hc
       refine wp_seq (R.list ?_)
       refine S.v hf hs ((pn g4 4)) rfl (V.fieldBox rfl rfl Tryd.runUnderlying95 rfl Tryd.sizeOf9 rfl rfl) fun a hf => ?_
       refine S.v hf hs (.string (ba x1.Nozzle)) rfl (V.loadBox 0 rfl rfl rfl Tryd.isAgg9 Tryd.sizeOf9 rfl rfl) fun a hf => ?_
       refine S.v hf hs ((pn g3 4)) rfl (V.fieldBox rfl rfl Tryd.runUnderlying95 rfl Tryd.sizeOf9 rfl rfl) fun a hf => ?_
       refine S.v hf hs (.string (ba x2.Nozzle)) rfl (V.loadBox 1 rfl rfl rfl Tryd.isAgg9 Tryd.sizeOf9 rfl rfl) fun a hf => ?_
       refine S.v hf hs (.bool (strLt x1.Nozzle x2.Nozzle)) rfl (V.strCmp (strLt x1.Nozzle x2.Nozzle) rfl rfl rfl rfl) fun a hf => ?_
       refine S.p hf hs (.bool (strLt x1.Nozzle x2.Nozzle)) rfl rfl fun a hf => ?_
       refine R.nil (X.then_ (wp_ret (X.blk_ret (X.then_ret ?_))))
       exact L.ret hf (run_results1 Tryd.results78 (ResIs.tmp hf rfl)) ⟨(strLt x1.Nozzle x2.Nozzle), rfl, h, hs.nil⟩
      ·replace h := h.2 hc
       refine wp_skip (X.blk (X.then_ (wp_seq (R.list ?_))))
       refine S.v hf hs ((pn g1 0)) rfl (V.fieldBox rfl rfl Tryd.runUnderlying28 rfl Tryd.sizeOf9 rfl rfl) fun a hf => ?_
       refine S.v hf hs (.string (ba p.Part)) rfl (V.loadBox 3 rfl rfl rfl Tryd.isAgg9 Tryd.sizeOf9 rfl rfl) fun a hf => ?_
       refine S.v hf hs ((pn g2 0)) rfl (V.fieldBox rfl rfl Tryd.runUnderlying28 rfl Tryd.sizeOf9 rfl rfl) fun a hf => ?_
       refine S.v hf hs (.string (ba q.Part)) rfl (V.loadBox 2 rfl rfl rfl Tryd.isAgg9 Tryd.sizeOf9 rfl rfl) fun a hf => ?_
       refine S.v hf hs (.bool (strLt p.Part q.Part)) rfl (V.strCmp (strLt p.Part q.Part) rfl rfl rfl rfl) fun a hf => ?_
       refine S.p hf hs (.bool (strLt p.Part q.Part)) rfl rfl fun a hf => ?_
       refine R.nil (X.then_ (wp_ret ?_))
       exact L.ret hf (run_results1 Tryd.results78 (ResIs.tmp hf rfl)) ⟨(strLt p.Part q.Part), rfl, h, hs.nil⟩
 ·refine S.alloc hf hs rfl rfl rfl [.string (ba []), iv 0, iv 0, iv 0, .string (ba [])] rfl Tryd.zeroValue95 rfl (fun g3 a w hf hs => ?_)
  refine R.nil (X.then_ ?_)
  refine ⟨(hs.mask [false, true, true]), ?_⟩
  refine H.each2 (i0 := 4) (i1 := 15) rfl rfl (by kernel_rfl) ?_ ?_
  ·refine S.call hf rfl rfl rfl (call_fn (vs := [.slice bA b.length bC, .string (ba p.Typ)]) rfl rfl rfl Tryd.call66) (R_ref10_bodyOf b p.Typ _ bA bC ((Ag.args _ _ _).view hv_b hs) _ h) (fun v a w' hf hr => ?_)
   obtain ⟨y1, rfl, h2, hs2⟩ := hr
   replace h := h2; replace hs := hs.call hs2; clear h2 hs2
   refine R.nil (X.then_ ?_)
   refine ⟨(hs.mask [false, true, true]), ?_⟩
   obtain ⟨h0x1, x1, hx1, h⟩ := h
   refine H.val hf (hs.mask [false, true, true]) (v := elemPtr bA (y1.toNat * 5)) (i := 5) rfl rfl rfl rfl (by kernel_rfl) (by kernel_rfl) (by kernel_rfl) (V.index rfl rfl rfl Tryd.runUnderlying22 Tryd.sizeOf95 (hv_b.some_ (lt_of_get hx1)) h0x1 (lt_of_get hx1) rfl) (fun a hf => ?_)
   refine H.val hf (hs.mask [false, true, true]) (v := .agg #[.string (ba x1.Typ), iv x1.W, iv x1.H, iv x1.Tall, .string (ba x1.Nozzle)]) (i := 6) rfl rfl rfl rfl (by kernel_rfl) (by kernel_rfl) (by kernel_rfl) (V.loadEl (off := 0) (Ag.args _ _ _) (hv_b.flat hx1) rfl rfl rfl Tryd.isAgg95 Tryd.sizeOf95 rfl rfl) (fun a hf => ?_)
   refine H.each2 (i0 := 11) (i1 := 15) rfl rfl (by kernel_rfl) ?_ ?_
   ·refine S.call hf rfl rfl rfl (call_fn (vs := [.slice bA b.length bC, .string (ba q.Typ)]) rfl rfl rfl Tryd.call66) (R_ref10_bodyOf b q.Typ _ bA bC ((Ag.args _ _ _).view hv_b hs) _ h) (fun v a w' hf hr => ?_)
    obtain ⟨y2, rfl, h2, hs2⟩ := hr
    replace h := h2; replace hs := hs.call hs2; clear h2 hs2
    refine R.nil (X.then_ ?_)
    refine ⟨(hs.mask [false, true, true]), ?_⟩
    obtain ⟨h0x2, x2, hx2, h⟩ := h
    refine H.val hf (hs.mask [false, true, true]) (v := elemPtr bA (y2.toNat * 5)) (i := 12) rfl rfl rfl rfl (by kernel_rfl) (by kernel_rfl) (by kernel_rfl) (V.index rfl rfl rfl Tryd.runUnderlying22 Tryd.sizeOf95 (hv_b.some_ (lt_of_get hx2)) h0x2 (lt_of_get hx2) rfl) (fun a hf => ?_)
    refine H.val hf (hs.mask [false, true, true]) (v := .agg #[.string (ba x2.Typ), iv x2.W, iv x2.H, iv x2.Tall, .string (ba x2.Nozzle)]) (i := 13) rfl rfl rfl rfl (by kernel_rfl) (by kernel_rfl) (by kernel_rfl) (V.loadEl (off := 0) (Ag.args _ _ _) (hv_b.flat hx2) rfl rfl rfl Tryd.isAgg95 Tryd.sizeOf95 rfl rfl) (fun a hf => ?_)
    refine H.one (i := 15) rfl (by kernel_rfl) ?_
    refine S.alloc hf hs rfl rfl rfl [.string (ba []), iv 0, iv 0, iv 0, .string (ba [])] rfl Tryd.zeroValue95 rfl (fun g4 a w hf hs => ?_)
    refine R.nil (X.then_ ?_)
    refine ⟨(hs.mask [false, false, true, true]), ?_⟩
    refine H.one (i := 16) rfl (by kernel_rfl) ?_
    refine S.storeBox 1 hf hs rfl rfl [.string (ba x1.Typ), iv x1.W, iv x1.H, iv x1.Tall, .string (ba x1.Nozzle)] [.string (ba x1.Typ), iv x1.W, iv x1.H, iv x1.Tall, .string (ba x1.Nozzle)] rfl rfl rfl rfl rfl Tryd.sizeOf95 rfl rfl rfl rfl (fun a w hf hs => ?_)
    refine R.nil (X.then_ ?_)
    refine ⟨(hs.mask [false, false, true, true]), ?_⟩
    refine H.one (i := 17) rfl (by kernel_rfl) ?_
    refine S.storeBox 0 hf hs rfl rfl [.string (ba x2.Typ), iv x2.W, iv x2.H, iv x2.Tall, .string (ba x2.Nozzle)] [.string (ba x2.Typ), iv x2.W, iv x2.H, iv x2.Tall, .string (ba x2.Nozzle)] rfl rfl rfl rfl rfl Tryd.sizeOf95 rfl rfl rfl rfl (fun a w hf hs => ?_)
    refine R.nil (X.then_ ?_)
    refine ⟨(hs.mask [false, false, true, true]), ?_⟩
    refine H.done (by kernel_rfl) ?_
    refine X.then_ (wp_seq (wp_block (wp_seq (R.list ?_))))
    refine S.v hf hs ((pn g1 5)) rfl (V.fieldBox rfl rfl Tryd.runUnderlying28 rfl Tryd.sizeOf4 rfl rfl) fun a hf => ?_
    refine S.v hf hs (.bool p.Below) rfl (V.loadBox 3 rfl rfl rfl Tryd.isAgg4 Tryd.sizeOf4 rfl rfl) fun a hf => ?_
    refine S.v hf hs ((pn g2 5)) rfl (V.fieldBox rfl rfl Tryd.runUnderlying28 rfl Tryd.sizeOf4 rfl rfl) fun a hf => ?_
    refine S.v hf hs (.bool q.Below) rfl (V.loadBox 2 rfl rfl rfl Tryd.isAgg4 Tryd.sizeOf4 rfl rfl) fun a hf => ?_
    refine S.v hf hs (.bool (!(p.Below == q.Below))) rfl (V.boolEq rfl rfl rfl Tryd.underlying4 rfl) fun a hf => ?_
    refine S.p hf hs (.bool (!(p.Below == q.Below))) rfl rfl fun a hf => ?_
    refine R.nil (X.then_ ?_)
    refine C.cond hf (b := !(p.Below == q.Below)) rfl (fun hc => ?_) (fun hc => ?_)
    ·replace h := h.1 hc
     refine wp_seq (R.list ?_)
     refine S.v hf hs ((pn g2 5)) rfl (V.fieldBox rfl rfl Tryd.runUnderlying28 rfl Tryd.sizeOf4 rfl rfl) fun a hf => ?_
     refine S.v hf hs (.bool q.Below) rfl (V.loadBox 2 rfl rfl rfl Tryd.isAgg4 Tryd.sizeOf4 rfl rfl) fun a hf => ?_
     refine S.p hf hs (.bool q.Below) rfl rfl fun a hf => ?_
     refine R.nil (X.then_ (wp_ret (X.blk_ret (X.then_ret ?_))))
     exact L.ret hf (run_results1 Tryd.results78 (ResIs.tmp hf rfl)) ⟨q.Below, rfl, h, hs.nil⟩
    ·replace h := h.2 hc
     refine wp_seq (R.list ?_)
     refine S.v hf hs ((pn g3 3)) rfl (V.fieldBox rfl rfl Tryd.runUnderlying95 rfl Tryd.sizeOf3 rfl rfl) fun a hf => ?_
     refine S.v hf hs (iv x1.Tall) rfl (V.loadBox 1 rfl rfl rfl Tryd.isAgg3 Tryd.sizeOf3 rfl rfl) fun a hf => ?_
     refine S.v hf hs ((pn g4 3)) rfl (V.fieldBox rfl rfl Tryd.runUnderlying95 rfl Tryd.sizeOf3 rfl rfl) fun a hf => ?_
     refine S.v hf hs (iv x2.Tall) rfl (V.loadBox 0 rfl rfl rfl Tryd.isAgg3 Tryd.sizeOf3 rfl rfl) fun a hf => ?_
     refine S.p hf hs (.bool (x1.Tall != x2.Tall)) rfl rfl fun a hf => ?_
     refine S.p hf hs (.bool (x1.Tall != x2.Tall)) rfl rfl fun a hf => ?_
     refine R.nil (X.then_ ?_)
     refine C.cond hf (b := x1.Tall != x2.Tall) rfl (fun hc => ?_) (fun hc => ?_)
     ·replace h := h.1 hc
      refine wp_seq (R.list ?_)
      refine S.v hf hs ((pn g3 3)) rfl (V.fieldBox rfl rfl Tryd.runUnderlying95 rfl Tryd.sizeOf3 rfl rfl) fun a hf => ?_
      refine S.v hf hs (iv x1.Tall) rfl (V.loadBox 1 rfl rfl rfl Tryd.isAgg3 Tryd.sizeOf3 rfl rfl) fun a hf => ?_
      refine S.v hf hs ((pn g4 3)) rfl (V.fieldBox rfl rfl Tryd.runUnderlying95 rfl Tryd.sizeOf3 rfl rfl) fun a hf => ?_
      refine S.v hf hs (iv x2.Tall) rfl (V.loadBox 0 rfl rfl rfl Tryd.isAgg3 Tryd.sizeOf3 rfl rfl) fun a hf => ?_
      refine S.p hf hs (.bool (decide (x1.Tall < x2.Tall))) rfl rfl fun a hf => ?_
      refine S.p hf hs (.bool (decide (x1.Tall < x2.Tall))) rfl rfl fun a hf => ?_
      refine R.nil (X.then_ (wp_ret (X.blk_ret (X.then_ret ?_))))
      exact L.ret hf (run_results1 Tryd.results78 (ResIs.tmp hf rfl)) ⟨(decide (x1.Tall < x2.Tall)), rfl, h, hs.nil⟩
     ·replace h := h.2 hc
      refine wp_seq (R.list ?_)
      refine S.v hf hs ((pn g3 4)) rfl (V.fieldBox rfl rfl Tryd.runUnderlying95 rfl Tryd.sizeOf9 rfl rfl) fun a hf => ?_
      refine S.v hf hs (.string (ba x1.Nozzle)) rfl (V.loadBox 1 rfl rfl rfl Tryd.isAgg9 Tryd.sizeOf9 rfl rfl) fun a hf => ?_
      refine S.v hf hs ((pn g4 4)) rfl (V.fieldBox rfl rfl Tryd.runUnderlying95 rfl Tryd.sizeOf9 rfl rfl) fun a hf => ?_
      refine S.v hf hs (.string (ba x2.Nozzle)) rfl (V.loadBox 0 rfl rfl rfl Tryd.isAgg9 Tryd.sizeOf9 rfl rfl) fun a hf => ?_
      refine S.v hf hs (.bool (!(x1.Nozzle == x2.Nozzle))) rfl (V.strCmp (!(x1.Nozzle == x2.Nozzle)) rfl rfl rfl rfl) fun a hf => ?_
      refine S.p hf hs (.bool (!(x1.Nozzle == x2.Nozzle))) rfl rfl fun a hf => ?_
      refine R.nil (X.then_ ?_)
      refine C.cond hf (b := !(x1.Nozzle == x2.Nozzle)) rfl (fun hc => ?_) (fun hc => ?_)
      ·replace h := h.1 hc
       refine wp_seq (R.list ?_)
       refine S.v hf hs ((pn g3 4)) rfl (V.fieldBox rfl rfl Tryd.runUnderlying95 rfl Tryd.sizeOf9 rfl rfl) fun a hf => ?_
       refine S.v hf hs (.string (ba x1.Nozzle)) rfl (V.loadBox 1 rfl rfl rfl Tryd.isAgg9 Tryd.sizeOf9 rfl rfl) fun a hf => ?_
       refine S.v hf hs ((pn g4 4)) rfl (V.fieldBox rfl rfl Tryd.runUnderlying95 rfl Tryd.sizeOf9 rfl rfl) fun a hf => ?_
       refine S.v hf hs (.string (ba x2.Nozzle)) rfl (V.loadBox 0 rfl rfl rfl Tryd.isAgg9 Tryd.sizeOf9 rfl rfl) fun a hf => ?_
       refine S.v hf hs (.bool (strLt x1.Nozzle x2.Nozzle)) rfl (V.strCmp (strLt x1.Nozzle x2.Nozzle) rfl rfl rfl rfl) fun a hf => ?_
       refine S.p hf hs (.bool (strLt x1.Nozzle x2.Nozzle)) rfl rfl fun a hf => ?_
       refine R.nil (X.then_ (wp_ret (X.blk_ret (X.then_ret ?_))))
       exact L.ret hf (run_results1 Tryd.results78 (ResIs.tmp hf rfl)) ⟨(strLt x1.Nozzle x2.Nozzle), rfl, h, hs.nil⟩
      ·replace h := h.2 hc
       refine wp_skip (X.blk (X.then_ (wp_seq (R.list ?_))))
       refine S.v hf hs ((pn g1 0)) rfl (V.fieldBox rfl rfl Tryd.runUnderlying28 rfl Tryd.sizeOf9 rfl rfl) fun a hf => ?_
       refine S.v hf hs (.string (ba p.Part)) rfl (V.loadBox 3 rfl rfl rfl Tryd.isAgg9 Tryd.sizeOf9 rfl rfl) fun a hf => ?_
       refine S.v hf hs ((pn g2 0)) rfl (V.fieldBox rfl rfl Tryd.runUnderlying28 rfl Tryd.sizeOf9 rfl rfl) fun a hf => ?_
       refine S.v hf hs (.string (ba q.Part)) rfl (V.loadBox 2 rfl rfl rfl Tryd.isAgg9 Tryd.sizeOf9 rfl rfl) fun a hf => ?_
       refine S.v hf hs (.bool (strLt p.Part q.Part)) rfl (V.strCmp (strLt p.Part q.Part) rfl rfl rfl rfl) fun a hf => ?_
       refine S.p hf hs (.bool (strLt p.Part q.Part)) rfl rfl fun a hf => ?_
       refine R.nil (X.then_ (wp_ret ?_))
       exact L.ret hf (run_results1 Tryd.results78 (ResIs.tmp hf rfl)) ⟨(strLt p.Part q.Part), rfl, h, hs.nil⟩
   ·refine S.alloc hf hs rfl rfl rfl [.string (ba []), iv 0, iv 0, iv 0, .string (ba [])] rfl Tryd.zeroValue95 rfl (fun g4 a w hf hs => ?_)
    refine R.nil (X.then_ ?_)
    refine ⟨(hs.mask [false, false, true, true]), ?_⟩
    refine H.one (i := 11) rfl (by kernel_rfl) ?_
    refine S.call hf rfl rfl rfl (call_fn (vs := [.slice bA b.length bC, .string (ba q.Typ)]) rfl rfl rfl Tryd.call66) (R_ref10_bodyOf b q.Typ _ bA bC ((Ag.args _ _ _).view hv_b hs) _ h) (fun v a w' hf hr => ?_)
    obtain ⟨y2, rfl, h2, hs2⟩ := hr
    replace h := h2; replace hs := hs.call hs2; clear h2 hs2
    refine R.nil (X.then_ ?_)
    refine ⟨(hs.mask [false, false, true, true]), ?_⟩
    obtain ⟨h0x2, x2, hx2, h⟩ := h
    refine H.val hf (hs.mask [false, false, true, true]) (v := elemPtr bA (y2.toNat * 5)) (i := 12) rfl rfl rfl rfl (by kernel_rfl) (by kernel_rfl) (by kernel_rfl) (V.index rfl rfl rfl Tryd.runUnderlying22 Tryd.sizeOf95 (hv_b.some_ (lt_of_get hx2)) h0x2 (lt_of_get hx2) rfl) (fun a hf => ?_)
    refine H.val hf (hs.mask [false, false, true, true]) (v := .agg #[.string (ba x2.Typ), iv x2.W, iv x2.H, iv x2.Tall, .string (ba x2.Nozzle)]) (i := 13) rfl rfl rfl rfl (by kernel_rfl) (by kernel_rfl) (by kernel_rfl) (V.loadEl (off := 0) (Ag.args _ _ _) (hv_b.flat hx2) rfl rfl rfl Tryd.isAgg95 Tryd.sizeOf95 rfl rfl) (fun a hf => ?_)
    refine H.one (i := 16) rfl (by kernel_rfl) ?_
    refine S.storeBox 1 hf hs rfl rfl [.string (ba x1.Typ), iv x1.W, iv x1.H, iv x1.Tall, .string (ba x1.Nozzle)] [.string (ba x1.Typ), iv x1.W, iv x1.H, iv x1.Tall, .string (ba x1.Nozzle)] rfl rfl rfl rfl rfl Tryd.sizeOf95 rfl rfl rfl rfl (fun a w hf hs => ?_)
    refine R.nil (X.then_ ?_)
    refine ⟨(hs.mask [false, false, true, true]), ?_⟩
    refine H.one (i := 17) rfl (by kernel_rfl) ?_
    refine S.storeBox 0 hf hs rfl rfl [.string (ba x2.Typ), iv x2.W, iv x2.H, iv x2.Tall, .string (ba x2.Nozzle)] [.string (ba x2.Typ), iv x2.W, iv x2.H, iv x2.Tall, .string (ba x2.Nozzle)] rfl rfl rfl rfl rfl Tryd.sizeOf95 rfl rfl rfl rfl (fun a w hf hs => ?_)
    refine R.nil (X.then_ ?_)
    refine ⟨(hs.mask [false, false, true, true]), ?_⟩
    refine H.done (by kernel_rfl) ?_
    refine X.then_ (wp_seq (wp_block (wp_seq (R.list ?_))))
    refine S.v hf hs ((pn g1 5)) rfl (V.fieldBox rfl rfl Tryd.runUnderlying28 rfl Tryd.sizeOf4 rfl rfl) fun a hf => ?_
    refine S.v hf hs (.bool p.Below) rfl (V.loadBox 3 rfl rfl rfl Tryd.isAgg4 Tryd.sizeOf4 rfl rfl) fun a hf => ?_
    refine S.v hf hs ((pn g2 5)) rfl (V.fieldBox rfl rfl Tryd.runUnderlying28 rfl Tryd.sizeOf4 rfl rfl) fun a hf => ?_
    refine S.v hf hs (.bool q.Below) rfl (V.loadBox 2 rfl rfl rfl Tryd.isAgg4 Tryd.sizeOf4 rfl rfl) fun a hf => ?_
    refine S.v hf hs (.bool (!(p.Below == q.Below))) rfl (V.boolEq rfl rfl rfl Tryd.underlying4 rfl) fun a hf => ?_
    refine S.p hf hs (.bool (!(p.Below == q.Below))) rfl rfl fun a hf => ?_
    refine R.nil (X.then_ ?_)
    refine C.cond hf (b := !(p.Below == q.Below)) rfl (fun hc => ?_) (fun hc => ?_)
    ·replace h := h.1 hc
     refine wp_seq (R.list ?_)
     refine S.v hf hs ((pn g2 5)) rfl (V.fieldBox rfl rfl Tryd.runUnderlying28 rfl Tryd.sizeOf4 rfl rfl) fun a hf => ?_
     refine S.v hf hs (.bool q.Below) rfl (V.loadBox 2 rfl rfl rfl Tryd.isAgg4 Tryd.sizeOf4 rfl rfl) fun a hf => ?_
     refine S.p hf hs (.bool q.Below) rfl rfl fun a hf => ?_
     refine R.nil (X.then_ (wp_ret (X.blk_ret (X.then_ret ?_))))
     exact L.ret hf (run_results1 Tryd.results78 (ResIs.tmp hf rfl)) ⟨q.Below, rfl, h, hs.nil⟩
    ·replace h := h.2 hc
     refine wp_seq (R.list ?_)
     refine S.v hf hs ((pn g3 3)) rfl (V.fieldBox rfl rfl Tryd.runUnderlying95 rfl Tryd.sizeOf3 rfl rfl) fun a hf => ?_
     refine S.v hf hs (iv x1.Tall) rfl (V.loadBox 1 rfl rfl rfl Tryd.isAgg3 Tryd.sizeOf3 rfl rfl) fun a hf => ?_
     refine S.v hf hs ((pn g4 3)) rfl (V.fieldBox rfl rfl Tryd.runUnderlying95 rfl Tryd.sizeOf3 rfl rfl) fun a hf => ?_
     refine S.v hf hs (iv x2.Tall) rfl (V.loadBox 0 rfl rfl rfl Tryd.isAgg3 Tryd.sizeOf3 rfl rfl) fun a hf => ?_
     refine S.p hf hs (.bool (x1.Tall != x2.Tall)) rfl rfl fun a hf => ?_
     refine S.p hf hs (.bool (x1.Tall != x2.Tall)) rfl rfl fun a hf => ?_
     refine R.nil (X.then_ ?_)
     refine C.cond hf (b := x1.Tall != x2.Tall) rfl (fun hc => ?_) (fun hc => ?_)
     ·replace h := h.1 hc
      refine wp_seq (R.list ?_)
      refine S.v hf hs ((pn g3 3)) rfl (V.fieldBox rfl rfl Tryd.runUnderlying95 rfl Tryd.sizeOf3 rfl rfl) fun a hf => ?_
      refine S.v hf hs (iv x1.Tall) rfl (V.loadBox 1 rfl rfl rfl Tryd.isAgg3 Tryd.sizeOf3 rfl rfl) fun a hf => ?_
      refine S.v hf hs ((pn g4 3)) rfl (V.fieldBox rfl rfl Tryd.runUnderlying95 rfl Tryd.sizeOf3 rfl rfl) fun a hf => ?_
      refine S.v hf hs (iv x2.Tall) rfl (V.loadBox 0 rfl rfl rfl Tryd.isAgg3 Tryd.sizeOf3 rfl rfl) fun a hf => ?_
      refine S.p hf hs (.bool (decide (x1.Tall < x2.Tall))) rfl rfl fun a hf => ?_
      refine S.p hf hs (.bool (decide (x1.Tall < x2.Tall))) rfl rfl fun a hf => ?_
      refine R.nil (X.then_ (wp_ret (X.blk_ret (X.then_ret ?_))))
      exact L.ret hf (run_results1 Tryd.results78 (ResIs.tmp hf rfl)) ⟨(decide (x1.Tall < x2.Tall)), rfl, h, hs.nil⟩
     ·replace h := h.2 hc
      refine wp_seq (R.list ?_)
      refine S.v hf hs ((pn g3 4)) rfl (V.fieldBox rfl rfl Tryd.runUnderlying95 rfl Tryd.sizeOf9 rfl rfl) fun a hf => ?_
      refine S.v hf hs (.string (ba x1.Nozzle)) rfl (V.loadBox 1 rfl rfl rfl Tryd.isAgg9 Tryd.sizeOf9 rfl rfl) fun a hf => ?_
      refine S.v hf hs ((pn g4 4)) rfl (V.fieldBox rfl rfl Tryd.runUnderlying95 rfl Tryd.sizeOf9 rfl rfl) fun a hf => ?_
      refine S.v hf hs (.string (ba x2.Nozzle)) rfl (V.loadBox 0 rfl rfl rfl Tryd.isAgg9 Tryd.sizeOf9 rfl rfl) fun a hf => ?_
      refine S.v hf hs (.bool (!(x1.Nozzle == x2.Nozzle))) rfl (V.strCmp (!(x1.Nozzle == x2.Nozzle)) rfl rfl rfl rfl) fun a hf => ?_
      refine S.p hf hs (.bool (!(x1.Nozzle == x2.Nozzle))) rfl rfl fun a hf => ?_
      refine R.nil (X.then_ ?_)
      refine C.cond hf (b := !(x1.Nozzle == x2.Nozzle)) rfl (fun hc => ?_) (fun hc => ?_)
      ·replace h := h.1 hc
       refine wp_seq (R.list ?_)
       refine S.v hf hs ((pn g3 4)) rfl (V.fieldBox rfl rfl Tryd.runUnderlying95 rfl Tryd.sizeOf9 rfl rfl) fun a hf => ?_
       refine S.v hf hs (.string (ba x1.Nozzle)) rfl (V.loadBox 1 rfl rfl rfl Tryd.isAgg9 Tryd.sizeOf9 rfl rfl) fun a hf => ?_
       refine S.v hf hs ((pn g4 4)) rfl (V.fieldBox rfl rfl Tryd.runUnderlying95 rfl Tryd.sizeOf9 rfl rfl) fun a hf => ?_
       refine S.v hf hs (.string (ba x2.Nozzle)) rfl (V.loadBox 0 rfl rfl rfl Tryd.isAgg9 Tryd.sizeOf9 rfl rfl) fun a hf => ?_
       refine S.v hf hs (.bool (strLt x1.Nozzle x2.Nozzle)) rfl (V.strCmp (strLt x1.Nozzle x2.Nozzle) rfl rfl rfl rfl) fun a hf => ?_
       refine S.p hf hs (.bool (strLt x1.Nozzle x2.Nozzle)) rfl rfl fun a hf => ?_
       refine R.nil (X.then_ (wp_ret (X.blk_ret (X.then_ret ?_))))
       exact L.ret hf (run_results1 Tryd.results78 (ResIs.tmp hf rfl)) ⟨(strLt x1.Nozzle x2.Nozzle), rfl, h, hs.nil⟩
      ·replace h := h.2 hc
       refine wp_skip (X.blk (X.then_ (wp_seq (R.list ?_))))
       refine S.v hf hs ((pn g1 0)) rfl (V.fieldBox rfl rfl Tryd.runUnderlying28 rfl Tryd.sizeOf9 rfl rfl) fun a hf => ?_
       refine S.v hf hs (.string (ba p.Part)) rfl (V.loadBox 3 rfl rfl rfl Tryd.isAgg9 Tryd.sizeOf9 rfl rfl) fun a hf => ?_
       refine S.v hf hs ((pn g2 0)) rfl (V.fieldBox rfl rfl Tryd.runUnderlying28 rfl Tryd.sizeOf9 rfl rfl) fun a hf => ?_
       refine S.v hf hs (.string (ba q.Part)) rfl (V.loadBox 2 rfl rfl rfl Tryd.isAgg9 Tryd.sizeOf9 rfl rfl) fun a hf => ?_
       refine S.v hf hs (.bool (strLt p.Part q.Part)) rfl (V.strCmp (strLt p.Part q.Part) rfl rfl rfl rfl) fun a hf => ?_
       refine S.p hf hs (.bool (strLt p.Part q.Part)) rfl rfl fun a hf => ?_
       refine R.nil (X.then_ (wp_ret ?_))
       exact L.ret hf (run_results1 Tryd.results78 (ResIs.tmp hf rfl)) ⟨(strLt p.Part q.Part), rfl, h, hs.nil⟩
  ·refine S.alloc hf hs rfl rfl rfl [.string (ba []), iv 0, iv 0, iv 0, .string (ba [])] rfl Tryd.zeroValue95 rfl (fun g4 a w hf hs => ?_)
   refine R.nil (X.then_ ?_)
   refine ⟨(hs.mask [false, false, true, true]), ?_⟩
   refine H.one (i := 4) rfl (by kernel_rfl) ?_
   refine S.call hf rfl rfl rfl (call_fn (vs := [.slice bA b.length bC, .string (ba p.Typ)]) rfl rfl rfl Tryd.call66) (R_ref10_bodyOf b p.Typ _ bA bC ((Ag.args _ _ _).view hv_b hs) _ h) (fun v a w' hf hr => ?_)
   obtain ⟨y1, rfl, h2, hs2⟩ := hr
   replace h := h2; replace hs := hs.call hs2; clear h2 hs2
   refine R.nil (X.then_ ?_)
   refine ⟨(hs.mask [false, false, true, true]), ?_⟩
   obtain ⟨h0x1, x1, hx1, h⟩ := h
   refine H.val hf (hs.mask [false, false, true, true]) (v := elemPtr bA (y1.toNat * 5)) (i := 5) rfl rfl rfl rfl (by kernel_rfl) (by kernel_rfl) (by kernel_rfl) (V.index rfl rfl rfl Tryd.runUnderlying22 Tryd.sizeOf95 (hv_b.some_ (lt_of_get hx1)) h0x1 (lt_of_get hx1) rfl) (fun a hf => ?_)
   refine H.val hf (hs.mask [false, false, true, true]) (v := .agg #[.string (ba x1.Typ), iv x1.W, iv x1.H, iv x1.Tall, .string (ba x1.Nozzle)]) (i := 6) rfl rfl rfl rfl (by kernel_rfl) (by kernel_rfl) (by kernel_rfl) (V.loadEl (off := 0) (Ag.args _ _ _) (hv_b.flat hx1) rfl rfl rfl Tryd.isAgg95 Tryd.sizeOf95 rfl rfl) (fun a hf => ?_)
   refine H.one (i := 11) rfl (by kernel_rfl) ?_
   refine S.call hf rfl rfl rfl (call_fn (vs := [.slice bA b.length bC, .string (ba q.Typ)]) rfl rfl rfl Tryd.call66) (R_ref10_bodyOf b q.Typ _ bA bC ((Ag.args _ _ _).view hv_b hs) _ h) (fun v a w' hf hr => ?_)
   obtain ⟨y2, rfl, h2, hs2⟩ := hr
   replace h := h2; replace hs := hs.call hs2; clear h2 hs2
   refine R.nil (X.then_ ?_)
   refine ⟨(hs.mask [false, false, true, true]), ?_⟩
   obtain ⟨h0x2, x2, hx2, h⟩ := h
   refine H.val hf (hs.mask [false, false, true, true]) (v := elemPtr bA (y2.toNat * 5)) (i := 12) rfl rfl rfl rfl (by kernel_rfl) (by kernel_rfl) (by kernel_rfl) (V.index rfl rfl rfl Tryd.runUnderlying22 Tryd.sizeOf95 (hv_b.some_ (lt_of_get hx2)) h0x2 (lt_of_get hx2) rfl) (fun a hf => ?_)
   refine H.val hf (hs.mask [false, false, true, true]) (v := .agg #[.string (ba x2.Typ), iv x2.W, iv x2.H, iv x2.Tall, .string (ba x2.Nozzle)]) (i := 13) rfl rfl rfl rfl (by kernel_rfl) (by kernel_rfl) (by kernel_rfl) (V.loadEl (off := 0) (Ag.args _ _ _) (hv_b.flat hx2) rfl rfl rfl Tryd.isAgg95 Tryd.sizeOf95 rfl rfl) (fun a hf => ?_)
   refine H.one (i := 16) rfl (by kernel_rfl) ?_
   refine S.storeBox 1 hf hs rfl rfl [.string (ba x1.Typ), iv x1.W, iv x1.H, iv x1.Tall, .string (ba x1.Nozzle)] [.string (ba x1.Typ), iv x1.W, iv x1.H, iv x1.Tall, .string (ba x1.Nozzle)] rfl rfl rfl rfl rfl Tryd.sizeOf95 rfl rfl rfl rfl (fun a w hf hs => ?_)
   refine R.nil (X.then_ ?_)
   refine ⟨(hs.mask [false, false, true, true]), ?_⟩
   refine H.one (i := 17) rfl (by kernel_rfl) ?_
   refine S.storeBox 0 hf hs rfl rfl [.string (ba x2.Typ), iv x2.W, iv x2.H, iv x2.Tall, .string (ba x2.Nozzle)] [.string (ba x2.Typ), iv x2.W, iv x2.H, iv x2.Tall, .string (ba x2.Nozzle)] rfl rfl rfl rfl rfl Tryd.sizeOf95 rfl rfl rfl rfl (fun a w hf hs => ?_)
   refine R.nil (X.then_ ?_)
   refine ⟨(hs.mask [false, false, true, true]), ?_⟩
   refine H.done (by kernel_rfl) ?_
   refine X.then_ (wp_seq (wp_block (wp_seq (R.list ?_))))
   refine S.v hf hs ((pn g1 5)) rfl (V.fieldBox rfl rfl Tryd.runUnderlying28 rfl Tryd.sizeOf4 rfl rfl) fun a hf => ?_
   refine S.v hf hs (.bool p.Below) rfl (V.loadBox 3 rfl rfl rfl Tryd.isAgg4 Tryd.sizeOf4 rfl rfl) fun a hf => ?_
   refine S.v hf hs ((pn g2 5)) rfl (V.fieldBox rfl rfl Tryd.runUnderlying28 rfl Tryd.sizeOf4 rfl rfl) fun a hf => ?_
   refine S.v hf hs (.bool q.Below) rfl (V.loadBox 2 rfl rfl rfl Tryd.isAgg4 Tryd.sizeOf4 rfl rfl) fun a hf => ?_
   refine S.v hf hs (.bool (!(p.Below == q.Below))) rfl (V.boolEq rfl rfl rfl Tryd.underlying4 rfl) fun a hf => ?_
   refine S.p hf hs (.bool (!(p.Below == q.Below))) rfl rfl fun a hf => ?_
   refine R.nil (X.then_ ?_)
   refine C.cond hf (b := !(p.Below == q.Below)) rfl (fun hc => ?_) (fun hc => ?_)
   ·replace h := h.1 hc
    refine wp_seq (R.list ?_)
    refine S.v hf hs ((pn g2 5)) rfl (V.fieldBox rfl rfl Tryd.runUnderlying28 rfl Tryd.sizeOf4 rfl rfl) fun a hf => ?_
    refine S.v hf hs (.bool q.Below) rfl (V.loadBox 2 rfl rfl rfl Tryd.isAgg4 Tryd.sizeOf4 rfl rfl) fun a hf => ?_
    refine S.p hf hs (.bool q.Below) rfl rfl fun a hf => ?_
    refine R.nil (X.then_ (wp_ret (X.blk_ret (X.then_ret ?_))))
    exact L.ret hf (run_results1 Tryd.results78 (ResIs.tmp hf rfl)) ⟨q.Below, rfl, h, hs.nil⟩
   ·replace h := h.2 hc
    refine wp_seq (R.list ?_)
    refine S.v hf hs ((pn g3 3)) rfl (V.fieldBox rfl rfl Tryd.runUnderlying95 rfl Tryd.sizeOf3 rfl rfl) fun a hf => ?_
    refine S.v hf hs (iv x1.Tall) rfl (V.loadBox 1 rfl rfl rfl Tryd.isAgg3 Tryd.sizeOf3 rfl rfl) fun a hf => ?_
    refine S.v hf hs ((pn g4 3)) rfl (V.fieldBox rfl rfl Tryd.runUnderlying95 rfl Tryd.sizeOf3 rfl rfl) fun a hf => ?_
    refine S.v hf hs (iv x2.Tall) rfl (V.loadBox 0 rfl rfl rfl Tryd.isAgg3 Tryd.sizeOf3 rfl rfl) fun a hf => ?_
    refine S.p hf hs (.bool (x1.Tall != x2.Tall)) rfl rfl fun a hf => ?_
    refine S.p hf hs (.bool (x1.Tall != x2.Tall)) rfl rfl fun a hf => ?_
    refine R.nil (X.then_ ?_)
    refine C.cond hf (b := x1.Tall != x2.Tall) rfl (fun hc => ?_) (fun hc => ?_)
    ·replace h := h.1 hc
     refine wp_seq (R.list ?_)
     refine S.v hf hs ((pn g3 3)) rfl (V.fieldBox rfl rfl Tryd.runUnderlying95 rfl Tryd.sizeOf3 rfl rfl) fun a hf => ?_
     refine S.v hf hs (iv x1.Tall) rfl (V.loadBox 1 rfl rfl rfl Tryd.isAgg3 Tryd.sizeOf3 rfl rfl) fun a hf => ?_
     refine S.v hf hs ((pn g4 3)) rfl (V.fieldBox rfl rfl Tryd.runUnderlying95 rfl Tryd.sizeOf3 rfl rfl) fun a hf => ?_
     refine S.v hf hs (iv x2.Tall) rfl (V.loadBox 0 rfl rfl rfl Tryd.isAgg3 Tryd.sizeOf3 rfl rfl) fun a hf => ?_
     refine S.p hf hs (.bool (decide (x1.Tall < x2.Tall))) rfl rfl fun a hf => ?_
     refine S.p hf hs (.bool (decide (x1.Tall < x2.Tall))) rfl rfl fun a hf => ?_
     refine R.nil (X.then_ (wp_ret (X.blk_ret (X.then_ret ?_))))
     exact L.ret hf (run_results1 Tryd.results78 (ResIs.tmp hf rfl)) ⟨(decide (x1.Tall < x2.Tall)), rfl, h, hs.nil⟩
    ·replace h := h.2 hc
     refine wp_seq (R.list ?_)
     refine S.v hf hs ((pn g3 4)) rfl (V.fieldBox rfl rfl Tryd.runUnderlying95 rfl Tryd.sizeOf9 rfl rfl) fun a hf => ?_
     refine S.v hf hs (.string (ba x1.Nozzle)) rfl (V.loadBox 1 rfl rfl rfl Tryd.isAgg9 Tryd.sizeOf9 rfl rfl) fun a hf => ?_
     refine S.v hf hs ((pn g4 4)) rfl (V.fieldBox rfl rfl Tryd.runUnderlying95 rfl Tryd.sizeOf9 rfl rfl) fun a hf => ?_
     refine S.v hf hs (.string (ba x2.Nozzle)) rfl (V.loadBox 0 rfl rfl rfl Tryd.isAgg9 Tryd.sizeOf9 rfl rfl) fun a hf => ?_
     refine S.v hf hs (.bool (!(x1.Nozzle == x2.Nozzle))) rfl (V.strCmp (!(x1.Nozzle == x2.Nozzle)) rfl rfl rfl rfl) fun a hf => ?_
     refine S.p hf hs (.bool (!(x1.Nozzle == x2.Nozzle))) rfl rfl fun a hf => ?_
     refine R.nil (X.then_ ?_)
     refine C.cond hf (b := !(x1.Nozzle == x2.Nozzle)) rfl (fun hc => ?_) (fun hc => ?_)
     ·replace h := h.1 hc
      refine wp_seq (R.list ?_)
      refine S.v hf hs ((pn g3 4)) rfl (V.fieldBox rfl rfl Tryd.runUnderlying95 rfl Tryd.sizeOf9 rfl rfl) fun a hf => ?_
      refine S.v hf hs (.string (ba x1.Nozzle)) rfl (V.loadBox 1 rfl rfl rfl Tryd.isAgg9 Tryd.sizeOf9 rfl rfl) fun a hf => ?_
      refine S.v hf hs ((pn g4 4)) rfl (V.fieldBox rfl rfl Tryd.runUnderlying95 rfl Tryd.sizeOf9 rfl rfl) fun a hf => ?_
      refine S.v hf hs (.string (ba x2.Nozzle)) rfl (V.loadBox 0 rfl rfl rfl Tryd.isAgg9 Tryd.sizeOf9 rfl rfl) fun a hf => ?_
      refine S.v hf hs (.bool (strLt x1.Nozzle x2.Nozzle)) rfl (V.strCmp (strLt x1.Nozzle x2.Nozzle) rfl rfl rfl rfl) fun a hf => ?_
      refine S.p hf hs (.bool (strLt x1.Nozzle x2.Nozzle)) rfl rfl fun a hf => ?_
      refine R.nil (X.then_ (wp_ret (X.blk_ret (X.then_ret ?_))))
      exact L.ret hf (run_results1 Tryd.results78 (ResIs.tmp hf rfl)) ⟨(strLt x1.Nozzle x2.Nozzle), rfl, h, hs.nil⟩
     ·replace h := h.2 hc
      refine wp_skip (X.blk (X.then_ (wp_seq (R.list ?_))))
      refine S.v hf hs ((pn g1 0)) rfl (V.fieldBox rfl rfl Tryd.runUnderlying28 rfl Tryd.sizeOf9 rfl rfl) fun a hf => ?_
      refine S.v hf hs (.string (ba p.Part)) rfl (V.loadBox 3 rfl rfl rfl Tryd.isAgg9 Tryd.sizeOf9 rfl rfl) fun a hf => ?_
      refine S.v hf hs ((pn g2 0)) rfl (V.fieldBox rfl rfl Tryd.runUnderlying28 rfl Tryd.sizeOf9 rfl rfl) fun a hf => ?_
      refine S.v hf hs (.string (ba q.Part)) rfl (V.loadBox 2 rfl rfl rfl Tryd.isAgg9 Tryd.sizeOf9 rfl rfl) fun a hf => ?_
      refine S.v hf hs (.bool (strLt p.Part q.Part)) rfl (V.strCmp (strLt p.Part q.Part) rfl rfl rfl rfl) fun a hf => ?_
      refine S.p hf hs (.bool (strLt p.Part q.Part)) rfl rfl fun a hf => ?_
      refine R.nil (X.then_ (wp_ret ?_))
      exact L.ret hf (run_results1 Tryd.results78 (ResIs.tmp hf rfl)) ⟨(strLt p.Part q.Part), rfl, h, hs.nil⟩
 ·refine S.alloc hf hs rfl rfl rfl [.string (ba []), iv 0, iv 0, iv 0, .string (ba [])] rfl Tryd.zeroValue95 rfl (fun g3 a w hf hs => ?_)
  refine R.nil (X.then_ ?_)
  refine ⟨(hs.mask [false, true, true]), ?_⟩
  refine H.each2 (i0 := 4) (i1 := 14) rfl rfl (by kernel_rfl) ?_ ?_
  ·refine S.call hf rfl rfl rfl (call_fn (vs := [.slice bA b.length bC, .string (ba p.Typ)]) rfl rfl rfl Tryd.call66) (R_ref10_bodyOf b p.Typ _ bA bC ((Ag.args _ _ _).view hv_b hs) _ h) (fun v a w' hf hr => ?_)
   obtain ⟨y1, rfl, h2, hs2⟩ := hr
   replace h := h2; replace hs := hs.call hs2; clear h2 hs2
   refine R.nil (X.then_ ?_)
   refine ⟨(hs.mask [false, true, true]), ?_⟩
   obtain ⟨h0x1, x1, hx1, h⟩ := h
   refine H.val hf (hs.mask [false, true, true]) (v := elemPtr bA (y1.toNat * 5)) (i := 5) rfl rfl rfl rfl (by kernel_rfl) (by kernel_rfl) (by kernel_rfl) (V.index rfl rfl rfl Tryd.runUnderlying22 Tryd.sizeOf95 (hv_b.some_ (lt_of_get hx1)) h0x1 (lt_of_get hx1) rfl) (fun a hf => ?_)
   refine H.val hf (hs.mask [false, true, true]) (v := .agg #[.string (ba x1.Typ), iv x1.W, iv x1.H, iv x1.Tall, .string (ba x1.Nozzle)]) (i := 6) rfl rfl rfl rfl (by kernel_rfl) (by kernel_rfl) (by kernel_rfl) (V.loadEl (off := 0) (Ag.args _ _ _) (hv_b.flat hx1) rfl rfl rfl Tryd.isAgg95 Tryd.sizeOf95 rfl rfl) (fun a hf => ?_)
   refine H.each2 (i0 := 11) (i1 := 14) rfl rfl (by kernel_rfl) ?_ ?_
   ·refine S.call hf rfl rfl rfl (call_fn (vs := [.slice bA b.length bC, .string (ba q.Typ)]) rfl rfl rfl Tryd.call66) (R_ref10_bodyOf b q.Typ _ bA bC ((Ag.args _ _ _).view hv_b hs) _ h) (fun v a w' hf hr => ?_)
    obtain ⟨y2, rfl, h2, hs2⟩ := hr
    replace h := h2; replace hs := hs.call hs2; clear h2 hs2
    refine R.nil (X.then_ ?_)
    refine ⟨(hs.mask [false, true, true]), ?_⟩
    obtain ⟨h0x2, x2, hx2, h⟩ := h
    refine H.val hf (hs.mask [false, true, true]) (v := elemPtr bA (y2.toNat * 5)) (i := 12) rfl rfl rfl rfl (by kernel_rfl) (by kernel_rfl) (by kernel_rfl) (V.index rfl rfl rfl Tryd.runUnderlying22 Tryd.sizeOf95 (hv_b.some_ (lt_of_get hx2)) h0x2 (lt_of_get hx2) rfl) (fun a hf => ?_)
    refine H.val hf (hs.mask [false, true, true]) (v := .agg #[.string (ba x2.Typ), iv x2.W, iv x2.H, iv x2.Tall, .string (ba x2.Nozzle)]) (i := 13) rfl rfl rfl rfl (by kernel_rfl) (by kernel_rfl) (by kernel_rfl) (V.loadEl (off := 0) (Ag.args _ _ _) (hv_b.flat hx2) rfl rfl rfl Tryd.isAgg95 Tryd.sizeOf95 rfl rfl) (fun a hf => ?_)
    refine H.one (i := 14) rfl (by kernel_rfl) ?_
    refine S.alloc hf hs rfl rfl rfl [.string (ba []), iv 0, iv 0, iv 0, .string (ba [])] rfl Tryd.zeroValue95 rfl (fun g4 a w hf hs => ?_)
    refine R.nil (X.then_ ?_)
    refine ⟨(hs.mask [false, false, true, true]), ?_⟩
    refine H.one (i := 16) rfl (by kernel_rfl) ?_
    refine S.storeBox 0 hf hs rfl rfl [.string (ba x1.Typ), iv x1.W, iv x1.H, iv x1.Tall, .string (ba x1.Nozzle)] [.string (ba x1.Typ), iv x1.W, iv x1.H, iv x1.Tall, .string (ba x1.Nozzle)] rfl rfl rfl rfl rfl Tryd.sizeOf95 rfl rfl rfl rfl (fun a w hf hs => ?_)
    refine R.nil (X.then_ ?_)
    refine ⟨(hs.mask [false, false, true, true]), ?_⟩
    refine H.one (i := 17) rfl (by kernel_rfl) ?_
    refine S.storeBox 1 hf hs rfl rfl [.string (ba x2.Typ), iv x2.W, iv x2.H, iv x2.Tall, .string (ba x2.Nozzle)] [.string (ba x2.Typ), iv x2.W, iv x2.H, iv x2.Tall, .string (ba x2.Nozzle)] rfl rfl rfl rfl rfl Tryd.sizeOf95 rfl rfl rfl rfl (fun a w hf hs => ?_)
    refine R.nil (X.then_ ?_)
    refine ⟨(hs.mask [false, false, true, true]), ?_⟩
    refine H.done (by kernel_rfl) ?_
    refine X.then_ (wp_seq (wp_block (wp_seq (R.list ?_))))
    refine S.v hf hs ((pn g1 5)) rfl (V.fieldBox rfl rfl Tryd.runUnderlying28 rfl Tryd.sizeOf4 rfl rfl) fun a hf => ?_
    refine S.v hf hs (.bool p.Below) rfl (V.loadBox 3 rfl rfl rfl Tryd.isAgg4 Tryd.sizeOf4 rfl rfl) fun a hf => ?_
    refine S.v hf hs ((pn g2 5)) rfl (V.fieldBox rfl rfl Tryd.runUnderlying28 rfl Tryd.sizeOf4 rfl rfl) fun a hf => ?_
    refine S.v hf hs (.bool q.Below) rfl (V.loadBox 2 rfl rfl rfl Tryd.isAgg4 Tryd.sizeOf4 rfl rfl) fun a hf => ?_
    refine S.v hf hs (.bool (!(p.Below == q.Below))) rfl (V.boolEq rfl rfl rfl Tryd.underlying4 rfl) fun a hf => ?_
    refine S.p hf hs (.bool (!(p.Below == q.Below))) rfl rfl fun a hf => ?_
    refine R.nil (X.then_ ?_)
    refine C.cond hf (b := !(p.Below == q.Below)) rfl (fun hc => ?_) (fun hc => ?_)
    ·replace h := h.1 hc
     refine wp_seq (R.list ?_)
     refine S.v hf hs ((pn g2 5)) rfl (V.fieldBox rfl rfl Tryd.runUnderlying28 rfl Tryd.sizeOf4 rfl rfl) fun a hf => ?_
     refine S.v hf hs (.bool q.Below) rfl (V.loadBox 2 rfl rfl rfl Tryd.isAgg4 Tryd.sizeOf4 rfl rfl) fun a hf => ?_
     refine S.p hf hs (.bool q.Below) rfl rfl fun a hf => ?_
     refine R.nil (X.then_ (wp_ret (X.blk_ret (X.then_ret ?_))))
     exact L.ret hf (run_results1 Tryd.results78 (ResIs.tmp hf rfl)) ⟨q.Below, rfl, h, hs.nil⟩
    ·replace h := h.2 hc
     refine wp_seq (R.list ?_)
     refine S.v hf hs ((pn g4 3)) rfl (V.fieldBox rfl rfl Tryd.runUnderlying95 rfl Tryd.sizeOf3 rfl rfl) fun a hf => ?_
     refine S.v hf hs (iv x1.Tall) rfl (V.loadBox 0 rfl rfl rfl Tryd.isAgg3 Tryd.sizeOf3 rfl rfl) fun a hf => ?_
     refine S.v hf hs ((pn g3 3)) rfl (V.fieldBox rfl rfl Tryd.runUnderlying95 rfl Tryd.sizeOf3 rfl rfl) fun a hf => ?_
     refine S.v hf hs (iv x2.Tall) rfl (V.loadBox 1 rfl rfl rfl Tryd.isAgg3 Tryd.sizeOf3 rfl rfl) fun a hf => ?_
     refine S.p hf hs (.bool (x1.Tall != x2.Tall)) rfl rfl fun a hf => ?_
     refine S.p hf hs (.bool (x1.Tall != x2.Tall)) rfl rfl fun a hf => ?_
     refine R.nil (X.then_ ?_)
     refine C.cond hf (b := x1.Tall != x2.Tall) rfl (fun hc => ?_) (fun hc => ?_)
     ·replace h := h.1 hc
      refine wp_seq (R.list ?_)
      refine S.v hf hs ((pn g4 3)) rfl (V.fieldBox rfl rfl Tryd.runUnderlying95 rfl Tryd.sizeOf3 rfl rfl) fun a hf => ?_
      refine S.v hf hs (iv x1.Tall) rfl (V.loadBox 0 rfl rfl rfl Tryd.isAgg3 Tryd.sizeOf3 rfl rfl) fun a hf => ?_
      refine S.v hf hs ((pn g3 3)) rfl (V.fieldBox rfl rfl Tryd.runUnderlying95 rfl Tryd.sizeOf3 rfl rfl) fun a hf => ?_
      refine S.v hf hs (iv x2.Tall) rfl (V.loadBox 1 rfl rfl rfl Tryd.isAgg3 Tryd.sizeOf3 rfl rfl) fun a hf => ?_
      refine S.p hf hs (.bool (decide (x1.Tall < x2.Tall))) rfl rfl fun a hf => ?_
      refine S.p hf hs (.bool (decide (x1.Tall < x2.Tall))) rfl rfl fun a hf => ?_
      refine R.nil (X.then_ (wp_ret (X.blk_ret (X.then_ret ?_))))
      exact L.ret hf (run_results1 Tryd.results78 (ResIs.tmp hf rfl)) ⟨(decide (x1.Tall < x2.Tall)), rfl, h, hs.nil⟩
     ·replace h := h.2 hc
      refine wp_seq (R.list ?_)
      refine S.v hf hs ((pn g4 4)) rfl (V.fieldBox rfl rfl Tryd.runUnderlying95 rfl Tryd.sizeOf9 rfl rfl) fun a hf => ?_
      refine S.v hf hs (.string (ba x1.Nozzle)) rfl (V.loadBox 0 rfl rfl rfl Tryd.isAgg9 Tryd.sizeOf9 rfl rfl) fun a hf => ?_
      refine S.v hf hs ((pn g3 4)) rfl (V.fieldBox rfl rfl Tryd.runUnderlying95 rfl Tryd.sizeOf9 rfl rfl) fun a hf => ?_
      refine S.v hf hs (.string (ba x2.Nozzle)) rfl (V.loadBox 1 rfl rfl rfl Tryd.isAgg9 Tryd.sizeOf9 rfl rfl) fun a hf => ?_
      refine S.v hf hs (.bool (!(x1.Nozzle == x2.Nozzle))) rfl (V.strCmp (!(x1.Nozzle == x2.Nozzle)) rfl rfl rfl rfl) fun a hf => ?_
      refine S.p hf hs (.bool (!(x1.Nozzle == x2.Nozzle))) rfl rfl fun a hf => ?_
      refine R.nil (X.then_ ?_)
      refine C.cond hf (b := !(x1.Nozzle == x2.Nozzle)) rfl (fun hc => ?_) (fun hc => ?_)
      ·replace h := h.1 hc
       refine wp_seq (R.list ?_)
       refine S.v hf hs ((pn g4 4)) rfl (V.fieldBox rfl rfl Tryd.runUnderlying95 rfl Tryd.sizeOf9 rfl rfl) fun a hf => ?_
       refine S.v hf hs (.string (ba x1.Nozzle)) rfl (V.loadBox 0 rfl rfl rfl Tryd.isAgg9 Tryd.sizeOf9 rfl rfl) fun a hf => ?_
       refine S.v hf hs ((pn g3 4)) rfl (V.fieldBox rfl rfl Tryd.runUnderlying95 rfl Tryd.sizeOf9 rfl rfl) fun a hf => ?_
       refine S.v hf hs (.string (ba x2.Nozzle)) rfl (V.loadBox 1 rfl rfl rfl Tryd.isAgg9 Tryd.sizeOf9 rfl rfl) fun a hf => ?_
       refine S.v hf hs (.bool (strLt x1.Nozzle x2.Nozzle)) rfl (V.strCmp (strLt x1.Nozzle x2.Nozzle) rfl rfl rfl rfl) fun a hf => ?_
       refine S.p hf hs (.bool (strLt x1.Nozzle x2.Nozzle)) rfl rfl fun a hf => ?_
       refine R.nil (X.then_ (wp_ret (X.blk_ret (X.then_ret ?_))))
       exact L.ret hf (run_results1 Tryd.results78 (ResIs.tmp hf rfl)) ⟨(strLt x1.Nozzle x2.Nozzle), rfl, h, hs.nil⟩
      ·replace h := h.2 hc
       refine wp_skip (X.blk (X.then_ (wp_seq (R.list ?_))))
       refine S.v hf hs ((pn g1 0)) rfl (V.fieldBox rfl rfl Tryd.runUnderlying28 rfl Tryd.sizeOf9 rfl rfl) fun a hf => ?_
       refine S.v hf hs (.string (ba p.Part)) rfl (V.loadBox 3 rfl rfl rfl Tryd.isAgg9 Tryd.sizeOf9 rfl rfl) fun a hf => ?_
       refine S.v hf hs ((pn g2 0)) rfl (V.fieldBox rfl rfl Tryd.runUnderlying28 rfl Tryd.sizeOf9 rfl rfl) fun a hf => ?_
       refine S.v hf hs (.string (ba q.Part)) rfl (V.loadBox 2 rfl rfl rfl Tryd.isAgg9 Tryd.sizeOf9 rfl rfl) fun a hf => ?_
       refine S.v hf hs (.bool (strLt p.Part q.Part)) rfl (V.strCmp (strLt p.Part q.Part) rfl rfl rfl rfl) fun a hf => ?_
       refine S.p hf hs (.bool (strLt p.Part q.Part)) rfl rfl fun a hf => ?_
       refine R.nil (X.then_ (wp_ret ?_))
       exact L.ret hf (run_results1 Tryd.results78 (ResIs.tmp hf rfl)) ⟨(strLt p.Part q.Part), rfl, h, hs.nil⟩
   ·refine S.alloc hf hs rfl rfl rfl [.string (ba []), iv 0, iv 0, iv 0, .string (ba [])] rfl Tryd.zeroValue95 rfl (fun g4 a w hf hs => ?_)
    refine R.nil (X.then_ ?_)
    refine ⟨(hs.mask [false, false, true, true]), ?_⟩
    refine H.one (i := 11) rfl (by kernel_rfl) ?_
    refine S.call hf rfl rfl rfl (call_fn (vs := [.slice bA b.length bC, .string (ba q.Typ)]) rfl rfl rfl Tryd.call66) (R_ref10_bodyOf b q.Typ _ bA bC ((Ag.args _ _ _).view hv_b hs) _ h) (fun v a w' hf hr => ?_)
    obtain ⟨y2, rfl, h2, hs2⟩ := hr
    replace h := h2; replace hs := hs.call hs2; clear h2 hs2
    refine R.nil (X.then_ ?_)
    refine ⟨(hs.mask [false, false, true, true]), ?_⟩
    obtain ⟨h0x2, x2, hx2, h⟩ := h
    refine H.val hf (hs.mask [false, false, true, true]) (v := elemPtr bA (y2.toNat * 5)) (i := 12) rfl rfl rfl rfl (by kernel_rfl) (by kernel_rfl) (by kernel_rfl) (V.index rfl rfl rfl Tryd.runUnderlying22 Tryd.sizeOf95 (hv_b.some_ (lt_of_get hx2)) h0x2 (lt_of_get hx2) rfl) (fun a hf => ?_)
    refine H.val hf (hs.mask [false, false, true, true]) (v := .agg #[.string (ba x2.Typ), iv x2.W, iv x2.H, iv x2.Tall, .string (ba x2.Nozzle)]) (i := 13) rfl rfl rfl rfl (by kernel_rfl) (by kernel_rfl) (by kernel_rfl) (V.loadEl (off := 0) (Ag.args _ _ _) (hv_b.flat hx2) rfl rfl rfl Tryd.isAgg95 Tryd.sizeOf95 rfl rfl) (fun a hf => ?_)
    refine H.one (i := 16) rfl (by kernel_rfl) ?_
    refine S.storeBox 0 hf hs rfl rfl [.string (ba x1.Typ), iv x1.W, iv x1.H, iv x1.Tall, .string (ba x1.Nozzle)] [.string (ba x1.Typ), iv x1.W, iv x1.H, iv x1.Tall, .string (ba x1.Nozzle)] rfl rfl rfl rfl rfl Tryd.sizeOf95 rfl rfl rfl rfl (fun a w hf hs => ?_)
    refine R.nil (X.then_ ?_)
    refine ⟨(hs.mask [false, false, true, true]), ?_⟩
    refine H.one (i := 17) rfl (by kernel_rfl) ?_
    refine S.storeBox 1 hf hs rfl rfl [.string (ba x2.Typ), iv x2.W, iv x2.H, iv x2.Tall, .string (ba x2.Nozzle)] [.string (ba x2.Typ), iv x2.W, iv x2.H, iv x2.Tall, .string (ba x2.Nozzle)] rfl rfl rfl rfl rfl Tryd.sizeOf95 rfl rfl rfl rfl (fun a w hf hs => ?_)
    refine R.nil (X.then_ ?_)
    refine ⟨(hs.mask [false, false, true, true]), ?_⟩
    refine H.done (by kernel_rfl) ?_
    refine X.then_ (wp_seq (wp_block (wp_seq (R.list ?_))))
    refine S.v hf hs ((pn g1 5)) rfl (V.fieldBox rfl rfl Tryd.runUnderlying28 rfl Tryd.sizeOf4 rfl rfl) fun a hf => ?_
    refine S.v hf hs (.bool p.Below) rfl (V.loadBox 3 rfl rfl rfl Tryd.isAgg4 Tryd.sizeOf4 rfl rfl) fun a hf => ?_
    refine S.v hf hs ((pn g2 5)) rfl (V.fieldBox rfl rfl Tryd.runUnderlying28 rfl Tryd.sizeOf4 rfl rfl) fun a hf => ?_
    refine S.v hf hs (.bool q.Below) rfl (V.loadBox 2 rfl rfl rfl Tryd.isAgg4 Tryd.sizeOf4 rfl rfl) fun a hf => ?_
    refine S.v hf hs (.bool (!(p.Below == q.Below))) rfl (V.boolEq rfl rfl rfl Tryd.underlying4 rfl) fun a hf => ?_
    refine S.p hf hs (.bool (!(p.Below == q.Below))) rfl rfl fun a hf => ?_
    refine R.nil (X.then_ ?_)
    refine C.cond hf (b := !(p.Below == q.Below)) rfl (fun hc => ?_) (fun hc => ?_)
    ·replace h := h.1 hc
     refine wp_seq (R.list ?_)
     refine S.v hf hs ((pn g2 5)) rfl (V.fieldBox rfl rfl Tryd.runUnderlying28 rfl Tryd.sizeOf4 rfl rfl) fun a hf => ?_
     refine S.v hf hs (.bool q.Below) rfl (V.loadBox 2 rfl rfl rfl Tryd.isAgg4 Tryd.sizeOf4 rfl rfl) fun a hf => ?_
     refine S.p hf hs (.bool q.Below) rfl rfl fun a hf => ?_
     refine R.nil (X.then_ (wp_ret (X.blk_ret (X.then_ret ?_))))
     exact L.ret hf (run_results1 Tryd.results78 (ResIs.tmp hf rfl)) ⟨q.Below, rfl, h, hs.nil⟩
    ·replace h := h.2 hc
     refine wp_seq (R.list ?_)
     refine S.v hf hs ((pn g4 3)) rfl (V.fieldBox rfl rfl Tryd.runUnderlying95 rfl Tryd.sizeOf3 rfl rfl) fun a hf => ?_
     refine S.v hf hs (iv x1.Tall) rfl (V.loadBox 0 rfl rfl rfl Tryd.isAgg3 Tryd.sizeOf3 rfl rfl) fun a hf => ?_
     refine S.v hf hs ((pn g3 3)) rfl (V.fieldBox rfl rfl Tryd.runUnderlying95 rfl Tryd.sizeOf3 rfl rfl) fun a hf => ?_
     refine S.v hf hs (iv x2.Tall) rfl (V.loadBox 1 rfl rfl rfl Tryd.isAgg3 Tryd.sizeOf3 rfl rfl) fun a hf => ?_
     refine S.p hf hs (.bool (x1.Tall != x2.Tall)) rfl rfl fun a hf => ?_
     refine S.p hf hs (.bool (x1.Tall != x2.Tall)) rfl rfl fun a hf => ?_
     refine R.nil (X.then_ ?_)
     refine C.cond hf (b := x1.Tall != x2.Tall) rfl (fun hc => ?_) (fun hc => ?_)
     ·replace h := h.1 hc
      refine wp_seq (R.list ?_)
      refine S.v hf hs ((pn g4 3)) rfl (V.fieldBox rfl rfl Tryd.runUnderlying95 rfl Tryd.sizeOf3 rfl rfl) fun a hf => ?_
      refine S.v hf hs (iv x1.Tall) rfl (V.loadBox 0 rfl rfl rfl Tryd.isAgg3 Tryd.sizeOf3 rfl rfl) fun a hf => ?_
      refine S.v hf hs ((pn g3 3)) rfl (V.fieldBox rfl rfl Tryd.runUnderlying95 rfl Tryd.sizeOf3 rfl rfl) fun a hf => ?_
      refine S.v hf hs (iv x2.Tall) rfl (V.loadBox 1 rfl rfl rfl Tryd.isAgg3 Tryd.sizeOf3 rfl rfl) fun a hf => ?_
      refine S.p hf hs (.bool (decide (x1.Tall < x2.Tall))) rfl rfl fun a hf => ?_
      refine S.p hf hs (.bool (decide (x1.Tall < x2.Tall))) rfl rfl fun a hf => ?_
      refine R.nil (X.then_ (wp_ret (X.blk_ret (X.then_ret ?_))))
      exact L.ret hf (run_results1 Tryd.results78 (ResIs.tmp hf rfl)) ⟨(decide (x1.Tall < x2.Tall)), rfl, h, hs.nil⟩
     ·replace h := h.2 hc
      refine wp_seq (R.list ?_)
      refine S.v hf hs ((pn g4 4)) rfl (V.fieldBox rfl rfl Tryd.runUnderlying95 rfl Tryd.sizeOf9 rfl rfl) fun a hf => ?_
      refine S.v hf hs (.string (ba x1.Nozzle)) rfl (V.loadBox 0 rfl rfl rfl Tryd.isAgg9 Tryd.sizeOf9 rfl rfl) fun a hf => ?_
      refine S.v hf hs ((pn g3 4)) rfl (V.fieldBox rfl rfl Tryd.runUnderlying95 rfl Tryd.sizeOf9 rfl rfl) fun a hf => ?_
      refine S.v hf hs (.string (ba x2.Nozzle)) rfl (V.loadBox 1 rfl rfl rfl Tryd.isAgg9 Tryd.sizeOf9 rfl rfl) fun a hf => ?_
      refine S.v hf hs (.bool (!(x1.Nozzle == x2.Nozzle))) rfl (V.strCmp (!(x1.Nozzle == x2.Nozzle)) rfl rfl rfl rfl) fun a hf => ?_
      refine S.p hf hs (.bool (!(x1.Nozzle == x2.Nozzle))) rfl rfl fun a hf => ?_
      refine R.nil (X.then_ ?_)
      refine C.cond hf (b := !(x1.Nozzle == x2.Nozzle)) rfl (fun hc => ?_) (fun hc => ?_)
      ·replace h := h.1 hc
       refine wp_seq (R.list ?_)
       refine S.v hf hs ((pn g4 4)) rfl (V.fieldBox rfl rfl Tryd.runUnderlying95 rfl Tryd.sizeOf9 rfl rfl) fun a hf => ?_
       refine S.v hf hs (.string (ba x1.Nozzle)) rfl (V.loadBox 0 rfl rfl rfl Tryd.isAgg9 Tryd.sizeOf9 rfl rfl) fun a hf => ?_
       refine S.v hf hs ((pn g3 4)) rfl (V.fieldBox rfl rfl Tryd.runUnderlying95 rfl Tryd.sizeOf9 rfl rfl) fun a hf => ?_
       refine S.v hf hs (.string (ba x2.Nozzle)) rfl (V.loadBox 1 rfl rfl rfl Tryd.isAgg9 Tryd.sizeOf9 rfl rfl) fun a hf => ?_
       refine S.v hf hs (.bool (strLt x1.Nozzle x2.Nozzle)) rfl (V.strCmp (strLt x1.Nozzle x2.Nozzle) rfl rfl rfl rfl) fun a hf => ?_
       refine S.p hf hs (.bool (strLt x1.Nozzle x2.Nozzle)) rfl rfl fun a hf => ?_
       refine R.nil (X.then_ (wp_ret (X.blk_ret (X.then_ret ?_))))
       exact L.ret hf (run_results1 Tryd.results78 (ResIs.tmp hf rfl)) ⟨(strLt x1.Nozzle x2.Nozzle), rfl, h, hs.nil⟩
      ·replace h := h.2 hc
       refine wp_skip (X.blk (X.then_ (wp_seq (R.list ?_))))
       refine S.v hf hs ((pn g1 0)) rfl (V.fieldBox rfl rfl Tryd.runUnderlying28 rfl Tryd.sizeOf9 rfl rfl) fun a hf => ?_
       refine S.v hf hs (.string (ba p.Part)) rfl (V.loadBox 3 rfl rfl rfl Tryd.isAgg9 Tryd.sizeOf9 rfl rfl) fun a hf => ?_
       refine S.v hf hs ((pn g2 0)) rfl (V.fieldBox rfl rfl Tryd.runUnderlying28 rfl Tryd.sizeOf9 rfl rfl) fun a hf => ?_
       refine S.v hf hs (.string (ba q.Part)) rfl (V.loadBox 2 rfl rfl rfl Tryd.isAgg9 Tryd.sizeOf9 rfl rfl) fun a hf => ?_
       refine S.v hf hs (.bool (strLt p.Part q.Part)) rfl (V.strCmp (strLt p.Part q.Part) rfl rfl rfl rfl) fun a hf => ?_
       refine S.p hf hs (.bool (strLt p.Part q.Part)) rfl rfl fun a hf => ?_
       refine R.nil (X.then_ (wp_ret ?_))
       exact L.ret hf (run_results1 Tryd.results78 (ResIs.tmp hf rfl)) ⟨(strLt p.Part q.Part), rfl, h, hs.nil⟩
  ·refine S.alloc hf hs rfl rfl rfl [.string (ba []), iv 0, iv 0, iv 0, .string (ba [])] rfl Tryd.zeroValue95 rfl (fun g4 a w hf hs => ?_)
   refine R.nil (X.then_ ?_)
   refine ⟨(hs.mask [false, false, true, true]), ?_⟩
   refine H.one (i := 4) rfl (by kernel_rfl) ?_
   refine S.call hf rfl rfl rfl (call_fn (vs := [.slice bA b.length bC, .string (ba p.Typ)]) rfl rfl rfl Tryd.call66) (R_ref10_bodyOf b p.Typ _ bA bC ((Ag.args _ _ _).view hv_b hs) _ h) (fun v a w' hf hr => ?_)
   obtain ⟨y1, rfl, h2, hs2⟩ := hr
   replace h := h2; replace hs := hs.call hs2; clear h2 hs2
   refine R.nil (X.then_ ?_)
   refine ⟨(hs.mask [false, false, true, true]), ?_⟩
   obtain ⟨h0x1, x1, hx1, h⟩ := h
   refine H.val hf (hs.mask [false, false, true, true]) (v := elemPtr bA (y1.toNat * 5)) (i := 5) rfl rfl rfl rfl (by kernel_rfl) (by kernel_rfl) (by kernel_rfl) (V.index rfl rfl rfl Tryd.runUnderlying22 Tryd.sizeOf95 (hv_b.some_ (lt_of_get hx1)) h0x1 (lt_of_get hx1) rfl) (fun a hf => ?_)
   refine H.val hf (hs.mask [false, false, true, true]) (v := .agg #[.string (ba x1.Typ), iv x1.W, iv x1.H, iv x1.Tall, .string (ba x1.Nozzle)]) (i := 6) rfl rfl rfl rfl (by kernel_rfl) (by kernel_rfl) (by kernel_rfl) (V.loadEl (off := 0) (Ag.args _ _ _) (hv_b.flat hx1) rfl rfl rfl Tryd.isAgg95 Tryd.sizeOf95 rfl rfl) (fun a hf => ?_)
   refine H.one (i := 11) rfl (by kernel_rfl) ?_
   refine S.call hf rfl rfl rfl (call_fn (vs := [.slice bA b.length bC, .string (ba q.Typ)]) rfl rfl rfl Tryd.call66) (R_ref10_bodyOf b q.Typ _ bA bC ((Ag.args _ _ _).view hv_b hs) _ h) (fun v a w' hf hr => ?_)
   obtain ⟨y2, rfl, h2, hs2⟩ := hr
   replace h := h2; replace hs := hs.call hs2; clear h2 hs2
   refine R.nil (X.then_ ?_)
   refine ⟨(hs.mask [false, false, true, true]), ?_⟩
   obtain ⟨h0x2, x2, hx2, h⟩ := h
   refine H.val hf (hs.mask [false, false, true, true]) (v := elemPtr bA (y2.toNat * 5)) (i := 12) rfl rfl rfl rfl (by kernel_rfl) (by kernel_rfl) (by kernel_rfl) (V.index rfl rfl rfl Tryd.runUnderlying22 Tryd.sizeOf95 (hv_b.some_ (lt_of_get hx2)) h0x2 (lt_of_get hx2) rfl) (fun a hf => ?_)
   refine H.val hf (hs.mask [false, false, true, true]) (v := .agg #[.string (ba x2.Typ), iv x2.W, iv x2.H, iv x2.Tall, .string (ba x2.Nozzle)]) (i := 13) rfl rfl rfl rfl (by kernel_rfl) (by kernel_rfl) (by kernel_rfl) (V.loadEl (off := 0) (Ag.args _ _ _) (hv_b.flat hx2) rfl rfl rfl Tryd.isAgg95 Tryd.sizeOf95 rfl rfl) (fun a hf => ?_)
   refine H.one (i := 16) rfl (by kernel_rfl) ?_
   refine S.storeBox 0 hf hs rfl rfl [.string (ba x1.Typ), iv x1.W, iv x1.H, iv x1.Tall, .string (ba x1.Nozzle)] [.string (ba x1.Typ), iv x1.W, iv x1.H, iv x1.Tall, .string (ba x1.Nozzle)] rfl rfl rfl rfl rfl Tryd.sizeOf95 rfl rfl rfl rfl (fun a w hf hs => ?_)
   refine R.nil (X.then_ ?_)
   refine ⟨(hs.mask [false, false, true, true]), ?_⟩
   refine H.one (i := 17) rfl (by kernel_rfl) ?_
   refine S.storeBox 1 hf hs rfl rfl [.string (ba x2.Typ), iv x2.W, iv x2.H, iv x2.Tall, .string (ba x2.Nozzle)] [.string (ba x2.Typ), iv x2.W, iv x2.H, iv x2.Tall, .string (ba x2.Nozzle)] rfl rfl rfl rfl rfl Tryd.sizeOf95 rfl rfl rfl rfl (fun a w hf hs => ?_)
   refine R.nil (X.then_ ?_)
   refine ⟨(hs.mask [false, false, true, true]), ?_⟩
   refine H.done (by kernel_rfl) ?_
   refine X.then_ (wp_seq (wp_block (wp_seq (R.list ?_))))
   refine S.v hf hs ((pn g1 5)) rfl (V.fieldBox rfl rfl Tryd.runUnderlying28 rfl Tryd.sizeOf4 rfl rfl) fun a hf => ?_
   refine S.v hf hs (.bool p.Below) rfl (V.loadBox 3 rfl rfl rfl Tryd.isAgg4 Tryd.sizeOf4 rfl rfl) fun a hf => ?_
   refine S.v hf hs ((pn g2 5)) rfl (V.fieldBox rfl rfl Tryd.runUnderlying28 rfl Tryd.sizeOf4 rfl rfl) fun a hf => ?_
   refine S.v hf hs (.bool q.Below) rfl (V.loadBox 2 rfl rfl rfl Tryd.isAgg4 Tryd.sizeOf4 rfl rfl) fun a hf => ?_
   refine S.v hf hs (.bool (!(p.Below == q.Below))) rfl (V.boolEq rfl rfl rfl Tryd.underlying4 rfl) fun a hf => ?_
   refine S.p hf hs (.bool (!(p.Below == q.Below))) rfl rfl fun a hf => ?_
   refine R.nil (X.then_ ?_)
   refine C.cond hf (b := !(p.Below == q.Below)) rfl (fun hc => ?_) (fun hc => ?_)
   ·replace h := h.1 hc
    refine wp_seq (R.list ?_)
    refine S.v hf hs ((pn g2 5)) rfl (V.fieldBox rfl rfl Tryd.runUnderlying28 rfl Tryd.sizeOf4 rfl rfl) fun a hf => ?_
    refine S.v hf hs (.bool q.Below) rfl (V.loadBox 2 rfl rfl rfl Tryd.isAgg4 Tryd.sizeOf4 rfl rfl) fun a hf => ?_
    refine S.p hf hs (.bool q.Below) rfl rfl fun a hf => ?_
    refine R.nil (X.then_ (wp_ret (X.blk_ret (X.then_ret ?_))))
    exact L.ret hf (run_results1 Tryd.results78 (ResIs.tmp hf rfl)) ⟨q.Below, rfl, h, hs.nil⟩
   ·replace h := h.2 hc
    refine wp_seq (R.list ?_)
    refine S.v hf hs ((pn g4 3)) rfl (V.fieldBox rfl rfl Tryd.runUnderlying95 rfl Tryd.sizeOf3 rfl rfl) fun a hf => ?_
    refine S.v hf hs (iv x1.Tall) rfl (V.loadBox 0 rfl rfl rfl Tryd.isAgg3 Tryd.sizeOf3 rfl rfl) fun a hf => ?_
    refine S.v hf hs ((pn g3 3)) rfl (V.fieldBox rfl rfl Tryd.runUnderlying95 rfl Tryd.sizeOf3 rfl rfl) fun a hf => ?_
    refine S.v hf hs (iv x2.Tall) rfl (V.loadBox 1 rfl rfl rfl Tryd.isAgg3 Tryd.sizeOf3 rfl rfl) fun a hf => ?_
    refine S.p hf hs (.bool (x1.Tall != x2.Tall)) rfl rfl fun a hf => ?_
    refine S.p hf hs (.bool (x1.Tall != x2.Tall)) rfl rfl fun a hf => ?_
    refine R.nil (X.then_ ?_)
    refine C.cond hf (b := x1.Tall != x2.Tall) rfl (fun hc => ?_) (fun hc => ?_)
    ·replace h := h.1 hc
     refine wp_seq (R.list ?_)
     refine S.v hf hs ((pn g4 3)) rfl (V.fieldBox rfl rfl Tryd.runUnderlying95 rfl Tryd.sizeOf3 rfl rfl) fun a hf => ?_
     refine S.v hf hs (iv x1.Tall) rfl (V.loadBox 0 rfl rfl rfl Tryd.isAgg3 Tryd.sizeOf3 rfl rfl) fun a hf => ?_
     refine S.v hf hs ((pn g3 3)) rfl (V.fieldBox rfl rfl Tryd.runUnderlying95 rfl Tryd.sizeOf3 rfl rfl) fun a hf => ?_
     refine S.v hf hs (iv x2.Tall) rfl (V.loadBox 1 rfl rfl rfl Tryd.isAgg3 Tryd.sizeOf3 rfl rfl) fun a hf => ?_
     refine S.p hf hs (.bool (decide (x1.Tall < x2.Tall))) rfl rfl fun a hf => ?_
     refine S.p hf hs (.bool (decide (x1.Tall < x2.Tall))) rfl rfl fun a hf => ?_
     refine R.nil (X.then_ (wp_ret (X.blk_ret (X.then_ret ?_))))
     exact L.ret hf (run_results1 Tryd.results78 (ResIs.tmp hf rfl)) ⟨(decide (x1.Tall < x2.Tall)), rfl, h, hs.nil⟩
    ·replace h := h.2 hc
     refine wp_seq (R.list ?_)
     refine S.v hf hs ((pn g4 4)) rfl (V.fieldBox rfl rfl Tryd.runUnderlying95 rfl Tryd.sizeOf9 rfl rfl) fun a hf => ?_
     refine S.v hf hs (.string (ba x1.Nozzle)) rfl (V.loadBox 0 rfl rfl rfl Tryd.isAgg9 Tryd.sizeOf9 rfl rfl) fun a hf => ?_
     refine S.v hf hs ((pn g3 4)) rfl (V.fieldBox rfl rfl Tryd.runUnderlying95 rfl Tryd.sizeOf9 rfl rfl) fun a hf => ?_
     refine S.v hf hs (.string (ba x2.Nozzle)) rfl (V.loadBox 1 rfl rfl rfl Tryd.isAgg9 Tryd.sizeOf9 rfl rfl) fun a hf => ?_
     refine S.v hf hs (.bool (!(x1.Nozzle == x2.Nozzle))) rfl (V.strCmp (!(x1.Nozzle == x2.Nozzle)) rfl rfl rfl rfl) fun a hf => ?_
     refine S.p hf hs (.bool (!(x1.Nozzle == x2.Nozzle))) rfl rfl fun a hf => ?_
     refine R.nil (X.then_ ?_)
     refine C.cond hf (b := !(x1.Nozzle == x2.Nozzle)) rfl (fun hc => ?_) (fun hc => ?_)
     ·replace h := h.1 hc
      refine wp_seq (R.list ?_)
      refine S.v hf hs ((pn g4 4)) rfl (V.fieldBox rfl rfl Tryd.runUnderlying95 rfl Tryd.sizeOf9 rfl rfl) fun a hf => ?_
      refine S.v hf hs (.string (ba x1.Nozzle)) rfl (V.loadBox 0 rfl rfl rfl Tryd.isAgg9 Tryd.sizeOf9 rfl rfl) fun a hf => ?_
      refine S.v hf hs ((pn g3 4)) rfl (V.fieldBox rfl rfl Tryd.runUnderlying95 rfl Tryd.sizeOf9 rfl rfl) fun a hf => ?_
      refine S.v hf hs (.string (ba x2.Nozzle)) rfl (V.loadBox 1 rfl rfl rfl Tryd.isAgg9 Tryd.sizeOf9 rfl rfl) fun a hf => ?_
      refine S.v hf hs (.bool (strLt x1.Nozzle x2.Nozzle)) rfl (V.strCmp (strLt x1.Nozzle x2.Nozzle) rfl rfl rfl rfl) fun a hf => ?_
      refine S.p hf hs (.bool (strLt x1.Nozzle x2.Nozzle)) rfl rfl fun a hf => ?_
      refine R.nil (X.then_ (wp_ret (X.blk_ret (X.then_ret ?_))))
      exact L.ret hf (run_results1 Tryd.results78 (ResIs.tmp hf rfl)) ⟨(strLt x1.Nozzle x2.Nozzle), rfl, h, hs.nil⟩
     ·replace h := h.2 hc
      refine wp_skip (X.blk (X.then_ (wp_seq (R.list ?_))))
      refine S.v hf hs ((pn g1 0)) rfl (V.fieldBox rfl rfl Tryd.runUnderlying28 rfl Tryd.sizeOf9 rfl rfl) fun a hf => ?_
      refine S.v hf hs (.string (ba p.Part)) rfl (V.loadBox 3 rfl rfl rfl Tryd.isAgg9 Tryd.sizeOf9 rfl rfl) fun a hf => ?_
      refine S.v hf hs ((pn g2 0)) rfl (V.fieldBox rfl rfl Tryd.runUnderlying28 rfl Tryd.sizeOf9 rfl rfl) fun a hf => ?_
      refine S.v hf hs (.string (ba q.Part)) rfl (V.loadBox 2 rfl rfl rfl Tryd.isAgg9 Tryd.sizeOf9 rfl rfl) fun a hf => ?_
      refine S.v hf hs (.bool (strLt p.Part q.Part)) rfl (V.strCmp (strLt p.Part q.Part) rfl rfl rfl rfl) fun a hf => ?_
      refine S.p hf hs (.bool (strLt p.Part q.Part)) rfl rfl fun a hf => ?_
      refine R.nil (X.then_ (wp_ret ?_))
      exact L.ret hf (run_results1 Tryd.results78 (ResIs.tmp hf rfl)) ⟨(strLt p.Part q.Part), rfl, h, hs.nil⟩
def M_insert_int (s_ : (List Int)) (i : Int) (v_ : (List Int)) (Q : (List Int) → (List Int) → Prop) : Prop :=
  must (0 ≤ i ∧ i ≤ (s_.length : Int) ∧ v_ ≠ [] ∧ room (s_.length + v_.length) 8) (Q (s_.take i.toNat ++ v_ ++ s_.drop i.toNat) v_)
set_option maxHeartbeats 1000000 in
theorem R_insert_int (s_ : (List Int)) (i : Int) (v_ : (List Int)) (w0 : World) (F0 : Nat → Prop) (s_A : Option Addr) (s_C : Nat) (v_A : Option Addr) (v_C : Nat) (hs0 : Sat w0 F0 [hown 3 s_A s_C s_, hown 3 v_A v_C v_] w0) (Q : (List Int) → (List Int) → Prop) (h : M_insert_int s_ i v_ Q) :
  Ret Tryd.prog 79 #[.slice s_A s_.length s_C, .int .i64 i, .slice v_A v_.length v_C] w0 fun v w' => ∃ (r0 : (List Int)) (r0A : Option Addr) (r0C : Nat) (v_1 : (List Int)) (hl_v_1 : v_1.length = v_.length), v = .slice r0A r0.length r0C ∧ Q r0 v_1 ∧ Sat w0 F0 [hown 3 r0A r0C r0, hown 3 v_A v_C v_1] w' := by
 obtain ⟨⟨h0, h1, hvne, hroom⟩, hq⟩ := h
 obtain ⟨k, rfl⟩ : ∃ k : Nat, i = (k : Int) := ⟨i.toNat, by omega⟩
 have hkn : k ≤ s_.length := by omega
 rw [Int.toNat_natCast] at hq
 have hm0 : 0 < v_.length := List.length_pos_iff.2 hvne
 have hszE : ∀ w, (Go.sizeOf 3).run Tryd.prog w = .ok (Flat.sz Int) w := Tryd.sizeOf3
 have hbig : s_.length + v_.length ≤ 9223372036854775807 := hroom.1
 refine fn_enter Tryd.func79 rfl Tryd.ntmps79 rfl (fs := [(0, .slice s_A s_.length s_C), (1, .int .i64 (k : Int)), (2, .slice v_A v_.length v_C)]) rfl (fun a hf => ?_)
 have hs := hs0
 refine wp_seq (R.list ?_)
 refine S.val hf hs (v := .slice none 0 0) rfl rfl rfl (V.pure rfl) (fun a hf => ?_)
 refine R.nil (X.then_ (wp_seq (R.list ?_)))
 refine S.val hf hs (v := .slice s_A s_.length s_C) rfl rfl rfl (V.pure rfl) (fun a hf => ?_)
 refine S.val hf hs (v := .int .i64 (k : Int)) rfl rfl rfl (V.pure rfl) (fun a hf => ?_)
 have hp1 : 0 ≤ (k : Int) ∧ (k : Int) ≤ (s_.length : Int) ∧ (s_.length : Int) ≤ (s_.length : Int) := ⟨Int.natCast_nonneg _, by omega, Int.le_refl _⟩
 refine S.val hf hs (v := .slice (segA s_A s_C (k : Int).toNat 1) (s_.length - k) (s_C - (k : Int).toNat)) rfl rfl rfl (V.slice (L := (k : Int)) (H := (s_.length : Int)) rfl rfl rfl rfl Tryd.runUnderlying48 Tryd.sizeOf3 rfl rfl hp1 (hs.ownView 0 rfl).cap (by simp)) (fun a hf => ?_)
 refine R.nil (X.then_ (wp_seq (R.list ?_)))
 refine S.val hf hs (v := .slice v_A v_.length v_C) rfl rfl rfl (V.pure rfl) (fun a hf => ?_)
 refine S.val hf hs (v := .int .i64 (v_.length : Int)) rfl rfl rfl (V.len rfl rfl Tryd.runUnderlying48) (fun a hf => ?_)
 refine S.val hf hs (v := .int .i64 (v_.length : Int)) rfl rfl rfl (V.pure rfl) (fun a hf => ?_)
 refine R.nil (X.then_ (wp_seq (wp_seq (R.list ?_))))
 refine S.val hf hs (v := .int .i64 (v_.length : Int)) rfl rfl rfl (V.pure rfl) (fun a hf => ?_)
 refine S.val hf hs (v := .bool ((v_.length : Int) == 0)) rfl rfl rfl (V.pure rfl) (fun a hf => ?_)
 refine R.nil (X.then_ ?_)
 refine C.cond hf (b := ((v_.length : Int) == 0)) rfl (fun hc => ?_) (fun hc => ?_)
 ·exfalso; simp at hc; exact hvne hc
 refine wp_skip (X.then_ (wp_seq (R.list ?_)))
 refine S.val hf hs (v := .slice s_A s_.length s_C) rfl rfl rfl (V.pure rfl) (fun a hf => ?_)
 refine S.val hf hs (v := .int .i64 (s_.length : Int)) rfl rfl rfl (V.len rfl rfl Tryd.runUnderlying48) (fun a hf => ?_)
 refine S.val hf hs (v := .int .i64 (s_.length : Int)) rfl rfl rfl (V.pure rfl) (fun a hf => ?_)
 refine R.nil (X.then_ (wp_seq (wp_seq (R.list ?_))))
 refine S.val hf hs (v := .int .i64 (k : Int)) rfl rfl rfl (V.pure rfl) (fun a hf => ?_)
 refine S.val hf hs (v := .int .i64 (s_.length : Int)) rfl rfl rfl (V.pure rfl) (fun a hf => ?_)
 refine S.val hf hs (v := .bool ((k : Int) == (s_.length : Int))) rfl rfl rfl (V.pure rfl) (fun a hf => ?_)
 refine R.nil (X.then_ ?_)
 refine C.cond hf (b := ((k : Int) == (s_.length : Int))) rfl (fun hi => ?_) (fun hi => ?_)
 ·have hkn' : k = s_.length := by simp at hi; omega
  refine wp_seq (R.list ?_)
  refine S.val hf hs (v := .slice s_A s_.length s_C) rfl rfl rfl (V.pure rfl) (fun a hf => ?_)
  refine S.val hf hs (v := .slice v_A v_.length v_C) rfl rfl rfl (V.pure rfl) (fun a hf => ?_)
  refine S.appendAny 0 hf hs rfl rfl rfl rfl rfl rfl rfl Tryd.underlying48 info3 rfl (by rw [List.length_append]; exact hroom) (hs.ownView 1 rfl) (fun A1 C1 a w hf hs => ?_)
  refine S.val hf hs (v := .slice A1 (s_ ++ v_).length C1) rfl rfl rfl (V.pure rfl) (fun a hf => ?_)
  refine R.nil (X.then_ (wp_ret (X.then_ret ?_)))
  have hq' : Q (s_ ++ v_) v_ := by subst hkn'; simpa using hq
  exact L.ret hf (run_results1 Tryd.results79 (ResIs.tmp hf rfl)) ⟨s_ ++ v_, A1, C1, v_, rfl, rfl, hq', hs⟩
 refine wp_skip (X.then_ ?_)
 have hlt : k < s_.length := by simp at hi; omega
 obtain ⟨g1, cs1, hsA, hCl, hCm, hcl, hct, hsr⟩ := hs.toRaw 0 rfl (Nat.lt_of_le_of_lt (Nat.zero_le _) hlt)
 subst hsA
 refine wp_seq (wp_seq (R.list ?_))
 refine S.val hf hs (v := .int .i64 (s_.length : Int)) rfl rfl rfl (V.pure rfl) (fun a hf => ?_)
 refine S.val hf hs (v := .int .i64 (v_.length : Int)) rfl rfl rfl (V.pure rfl) (fun a hf => ?_)
 refine S.val hf hs (v := .int .i64 ((s_.length + v_.length : Nat) : Int)) rfl rfl rfl (V.addNat rfl rfl rfl rfl hbig) (fun a hf => ?_)
 refine S.val hf hs (v := .slice (some ⟨g1, 0, none⟩) s_.length s_C) rfl rfl rfl (V.pure rfl) (fun a hf => ?_)
 refine S.val hf hs (v := .int .i64 (s_C : Int)) rfl rfl rfl (V.cap rfl rfl Tryd.runUnderlying48) (fun a hf => ?_)
 refine S.val hf hs (v := .bool (decide (((s_.length + v_.length : Nat) : Int) > (s_C : Int)))) rfl rfl rfl (V.pure rfl) (fun a hf => ?_)
 refine R.nil (X.then_ ?_)
 refine C.cond hf (b := decide (((s_.length + v_.length : Nat) : Int) > (s_C : Int))) rfl (fun hc2 => ?_) (fun hc2 => ?_)
 ·have hgr : s_C < s_.length + v_.length := by simp at hc2; omega
  have hkc : k + (s_.length + v_.length - k) = s_.length + v_.length := by omega
  refine wp_seq (R.list ?_)
  refine S.val hf hs (v := .slice (some ⟨g1, 0, none⟩) s_.length s_C) rfl rfl rfl (V.pure rfl) (fun a hf => ?_)
  refine S.val hf hs (v := .int .i64 (k : Int)) rfl rfl rfl (V.pure rfl) (fun a hf => ?_)
  refine S.val hf hs (v := .slice (some ⟨g1, 0, none⟩) k s_C) rfl rfl rfl (V.sliceCap rfl rfl rfl Tryd.runUnderlying48 Tryd.sizeOf3 (by omega)) (fun a hf => ?_)
  refine S.val hf hs (v := .int .i64 (s_.length : Int)) rfl rfl rfl (V.pure rfl) (fun a hf => ?_)
  refine S.val hf hs (v := .int .i64 (v_.length : Int)) rfl rfl rfl (V.pure rfl) (fun a hf => ?_)
  refine S.val hf hs (v := .int .i64 ((s_.length + v_.length : Nat) : Int)) rfl rfl rfl (V.addNat rfl rfl rfl rfl hbig) (fun a hf => ?_)
  refine S.val hf hs (v := .int .i64 (k : Int)) rfl rfl rfl (V.pure rfl) (fun a hf => ?_)
  refine S.val hf hs (v := .int .i64 (((s_.length + v_.length - k) : Nat) : Int)) rfl rfl rfl (V.subNat rfl rfl rfl hkc hbig) (fun a hf => ?_)
  refine S.growRaw 0 (α := Int) hf hs rfl rfl rfl rfl rfl hkn rfl rfl Tryd.underlying48 Tryd.underlying3 info3 rfl (by omega) (by omega) (by rw [hkc]; exact hroom) (fun g cs C' a w hf i1 i2 i3 i4 hs => ?_)
  rw [hkc] at hf i2
  refine S.val hf hs (v := .slice (some ⟨g, 0, none⟩) (s_.length + v_.length) C') rfl rfl rfl (V.pure rfl) (fun a hf => ?_)
  refine R.nil (X.then_ (wp_seq (R.list ?_)))
  refine S.val hf hs (v := .slice (some ⟨g, 0, none⟩) (s_.length + v_.length) C') rfl rfl rfl (V.pure rfl) (fun a hf => ?_)
  refine S.val hf hs (v := .int .i64 (k : Int)) rfl rfl rfl (V.pure rfl) (fun a hf => ?_)
  refine S.val hf hs (v := .slice (some ⟨g, 0 + k * 1, none⟩) (s_.length + v_.length - k) (C' - k)) rfl rfl rfl (V.sliceFrom rfl rfl rfl Tryd.runUnderlying48 Tryd.sizeOf3 (by omega) i2 (by omega)) (fun a hf => ?_)
  refine S.val hf hs (v := .slice v_A v_.length v_C) rfl rfl rfl (V.pure rfl) (fun a hf => ?_)
  have hfit1 : 0 + k * 1 + v_.length * Flat.sz Int ≤ cs.length := by rw [i1]; show 0 + k * Flat.sz Int + _ ≤ _; rw [Nat.zero_add, ← Nat.add_mul]; exact Nat.mul_le_mul_right _ (by omega)
  refine S.copyRaw 0 hf hs rfl rfl rfl rfl rfl rfl rfl Tryd.underlying48 hszE v_ (hs.ownSome 2 rfl hm0) (hs.ownView 2 rfl) (by omega) hfit1 (fun a w hf hs => ?_)
  refine R.nil (X.then_ (wp_seq ?_))
  refine H.start (S := Sat w0 F0 [hown 3 (some ⟨g1, 0, none⟩) s_C s_, hown 3 v_A v_C v_]) mo ?_
  replace hs := hs.drew
  refine H.val hf (hs.mask [false, true, true]) (v := .slice (some ⟨g, 0, none⟩) (s_.length + v_.length) C') (i := 0) rfl rfl rfl rfl (by kernel_rfl) (by kernel_rfl) (by kernel_rfl) (V.pure rfl) (fun a hf => ?_)
  refine H.val hf (hs.mask [false, true, true]) (v := .int .i64 (k : Int)) (i := 1) rfl rfl rfl rfl (by kernel_rfl) (by kernel_rfl) (by kernel_rfl) (V.pure rfl) (fun a hf => ?_)
  refine H.val hf (hs.mask [false, true, true]) (v := .int .i64 (v_.length : Int)) (i := 2) rfl rfl rfl rfl (by kernel_rfl) (by kernel_rfl) (by kernel_rfl) (V.pure rfl) (fun a hf => ?_)
  refine H.val hf (hs.mask [false, true, true]) (v := .int .i64 ((k + v_.length : Nat) : Int)) (i := 3) rfl rfl rfl rfl (by kernel_rfl) (by kernel_rfl) (by kernel_rfl) (V.addNat rfl rfl rfl rfl (by omega)) (fun a hf => ?_)
  refine H.val hf (hs.mask [false, true, true]) (v := .slice (some ⟨g, 0 + (k + v_.length) * 1, none⟩) (s_.length + v_.length - (k + v_.length)) (C' - (k + v_.length))) (i := 4) rfl rfl rfl rfl (by kernel_rfl) (by kernel_rfl) (by kernel_rfl) (V.sliceFrom rfl rfl rfl Tryd.runUnderlying48 Tryd.sizeOf3 (by omega) i2 (by omega)) (fun a hf => ?_)
  refine H.val hf (hs.mask [false, true, true]) (v := .slice (some ⟨g1, 0, none⟩) s_.length s_C) (i := 5) rfl rfl rfl rfl (by kernel_rfl) (by kernel_rfl) (by kernel_rfl) (V.pure rfl) (fun a hf => ?_)
  refine H.val hf (hs.mask [false, true, true]) (v := .int .i64 (k : Int)) (i := 6) rfl rfl rfl rfl (by kernel_rfl) (by kernel_rfl) (by kernel_rfl) (V.pure rfl) (fun a hf => ?_)
  refine H.val hf (hs.mask [false, true, true]) (v := .slice (some ⟨g1, 0 + k * 1, none⟩) (s_.length - k) (s_C - k)) (i := 7) rfl rfl rfl rfl (by kernel_rfl) (by kernel_rfl) (by kernel_rfl) (V.sliceFrom rfl rfl rfl Tryd.runUnderlying48 Tryd.sizeOf3 (by omega) hCl (by omega)) (fun a hf => ?_)
  refine H.one (i := 8) rfl (by kernel_rfl) ?_
  have hlc1 : (cs.take (0 + k * 1) ++ v_.flatMap Flat.enc ++ cs.drop (0 + k * 1 + v_.length * Flat.sz Int)).length = C' * Flat.sz Int := by rw [← i1]; simp only [List.length_append, List.length_take, List.length_drop, length_flatMap_enc]; omega
  have hfit2 : 0 + (k + v_.length) * 1 + (s_.drop k).length * Flat.sz Int ≤ (cs.take (0 + k * 1) ++ v_.flatMap Flat.enc ++ cs.drop (0 + k * 1 + v_.length * Flat.sz Int)).length := by rw [hlc1]; show 0 + (k + v_.length) * Flat.sz Int + _ ≤ _; rw [Nat.zero_add, ← Nat.add_mul, List.length_drop]; exact Nat.mul_le_mul_right _ (by omega)
  refine S.copyRaw 0 hf hs rfl rfl rfl rfl rfl rfl rfl Tryd.underlying48 hszE (s_.drop k) rfl (View.from_ (hs.ownView 1 rfl) hkn) (by rw [List.length_drop]; omega) hfit2 (fun a w hf hs => ?_)
  refine R.nil (X.then_ ?_)
  refine ⟨(hs.mask [false, true, true]), ?_⟩
  refine H.done (by kernel_rfl) ?_
  refine X.then_ (wp_seq (R.list ?_))
  refine S.val hf hs (v := .slice (some ⟨g, 0, none⟩) (s_.length + v_.length) C') rfl rfl rfl (V.pure rfl) (fun a hf => ?_)
  refine S.val hf hs (v := .slice (some ⟨g, 0, none⟩) (s_.length + v_.length) C') rfl rfl rfl (V.pure rfl) (fun a hf => ?_)
  refine R.nil (X.then_ (wp_ret (X.then_ret ?_)))
  have hs2 := hs.ofRaw 0 rfl (C := C') (s_.take k ++ v_ ++ s_.drop k) (by rw [← hlc1, List.length_append, List.length_append, List.length_take, List.length_drop, length_flatMap_enc]; omega) (by simp only [List.length_append, List.length_take, List.length_drop]; omega) i3 (insert_cells hkn hfit1 hfit2 i4)
  have hlen : (s_.take k ++ v_ ++ s_.drop k).length = s_.length + v_.length := by simp only [List.length_append, List.length_take, List.length_drop]; omega
  exact L.ret hf (run_results1 Tryd.results79 (ResIs.tmp hf rfl)) ⟨s_.take k ++ v_ ++ s_.drop k, some ⟨g, 0, none⟩, C', v_, rfl, by rw [hlen], hq, hs2.mask [true, false, true]⟩
 refine wp_skip (X.then_ ?_)
 have hrm : s_.length + v_.length ≤ s_C := by simp at hc2; omega
 refine wp_seq (R.list ?_)
 refine S.val hf hs (v := .slice (some ⟨g1, 0, none⟩) s_.length s_C) rfl rfl rfl (V.pure rfl) (fun a hf => ?_)
 refine S.val hf hs (v := .int .i64 (s_.length : Int)) rfl rfl rfl (V.pure rfl) (fun a hf => ?_)
 refine S.val hf hs (v := .int .i64 (v_.length : Int)) rfl rfl rfl (V.pure rfl) (fun a hf => ?_)
 refine S.val hf hs (v := .int .i64 ((s_.length + v_.length : Nat) : Int)) rfl rfl rfl (V.addNat rfl rfl rfl rfl hbig) (fun a hf => ?_)
 refine S.val hf hs (v := .slice (some ⟨g1, 0, none⟩) (s_.length + v_.length) s_C) rfl rfl rfl (V.sliceCap rfl rfl rfl Tryd.runUnderlying48 Tryd.sizeOf3 hrm) (fun a hf => ?_)
 refine S.val hf hs (v := .slice (some ⟨g1, 0, none⟩) (s_.length + v_.length) s_C) rfl rfl rfl (V.pure rfl) (fun a hf => ?_)
 refine R.nil (X.then_ ?_)
 replace hs := hs.toRaw 0 rfl (Nat.lt_of_le_of_lt (Nat.zero_le _) hlt)
 clear hcl hct hsr
 obtain ⟨g2, cs, hsA, _, _, i1, i4, hs⟩ := hs
 injection hsA with hsA; injection hsA with hsA; subst hsA
 refine wp_seq (wp_seq (R.list ?_))
 refine S.val hf hs (v := .slice v_A v_.length v_C) rfl rfl rfl (V.pure rfl) (fun a hf => ?_)
 refine S.val hf hs (v := .slice (some ⟨g1, 0, none⟩) (s_.length + v_.length) s_C) rfl rfl rfl (V.pure rfl) (fun a hf => ?_)
 refine S.val hf hs (v := .int .i64 (k : Int)) rfl rfl rfl (V.pure rfl) (fun a hf => ?_)
 refine S.val hf hs (v := .int .i64 (v_.length : Int)) rfl rfl rfl (V.pure rfl) (fun a hf => ?_)
 refine S.val hf hs (v := .int .i64 ((k + v_.length : Nat) : Int)) rfl rfl rfl (V.addNat rfl rfl rfl rfl (by omega)) (fun a hf => ?_)
 refine S.val hf hs (v := .slice (some ⟨g1, 0 + (k + v_.length) * 1, none⟩) (s_.length + v_.length - (k + v_.length)) (s_C - (k + v_.length))) rfl rfl rfl (V.sliceFrom rfl rfl rfl Tryd.runUnderlying48 Tryd.sizeOf3 (by omega) hrm (by omega)) (fun a hf => ?_)
 have hcs0 : 0 < cs.length := by rw [i1]; exact Nat.mul_pos (by omega) Flat.pos
 refine S.val hf hs (v := .bool false) rfl rfl rfl (V.externS Tryd.func103 (by kernel_rfl) (by kernel_rfl) (by kernel_rfl) (by kernel_rfl) rfl rfl rfl (fun w hs => overlaps_no (B := 4) hs Tryd.underlying48 hszE hm0 hcs0)) (fun a hf => ?_)
 refine S.val hf hs (v := .bool true) rfl rfl rfl (V.pure rfl) (fun a hf => ?_)
 refine R.nil (X.then_ ?_)
 refine C.yes hf rfl ?_
 refine wp_seq ?_
 refine H.start (S := Sat w0 F0 [hown 3 v_A v_C v_]) mo ?_
 replace hs := hs.drew
 refine H.val hf (hs.mask [false, true]) (v := .slice (some ⟨g1, 0, none⟩) (s_.length + v_.length) s_C) (i := 0) rfl rfl rfl rfl (by kernel_rfl) (by kernel_rfl) (by kernel_rfl) (V.pure rfl) (fun a hf => ?_)
 refine H.val hf (hs.mask [false, true]) (v := .int .i64 (k : Int)) (i := 1) rfl rfl rfl rfl (by kernel_rfl) (by kernel_rfl) (by kernel_rfl) (V.pure rfl) (fun a hf => ?_)
 refine H.val hf (hs.mask [false, true]) (v := .int .i64 (v_.length : Int)) (i := 2) rfl rfl rfl rfl (by kernel_rfl) (by kernel_rfl) (by kernel_rfl) (V.pure rfl) (fun a hf => ?_)
 refine H.val hf (hs.mask [false, true]) (v := .int .i64 ((k + v_.length : Nat) : Int)) (i := 3) rfl rfl rfl rfl (by kernel_rfl) (by kernel_rfl) (by kernel_rfl) (V.addNat rfl rfl rfl rfl (by omega)) (fun a hf => ?_)
 refine H.val hf (hs.mask [false, true]) (v := .slice (some ⟨g1, 0 + (k + v_.length) * 1, none⟩) (s_.length + v_.length - (k + v_.length)) (s_C - (k + v_.length))) (i := 4) rfl rfl rfl rfl (by kernel_rfl) (by kernel_rfl) (by kernel_rfl) (V.sliceFrom rfl rfl rfl Tryd.runUnderlying48 Tryd.sizeOf3 (by omega) hrm (by omega)) (fun a hf => ?_)
 refine H.val hf (hs.mask [false, true]) (v := .slice (some ⟨g1, 0, none⟩) (s_.length + v_.length) s_C) (i := 5) rfl rfl rfl rfl (by kernel_rfl) (by kernel_rfl) (by kernel_rfl) (V.pure rfl) (fun a hf => ?_)
 refine H.val hf (hs.mask [false, true]) (v := .int .i64 (k : Int)) (i := 6) rfl rfl rfl rfl (by kernel_rfl) (by kernel_rfl) (by kernel_rfl) (V.pure rfl) (fun a hf => ?_)
 refine H.val hf (hs.mask [false, true]) (v := .slice (some ⟨g1, 0 + k * 1, none⟩) (s_.length + v_.length - k) (s_C - k)) (i := 7) rfl rfl rfl rfl (by kernel_rfl) (by kernel_rfl) (by kernel_rfl) (V.sliceFrom rfl rfl rfl Tryd.runUnderlying48 Tryd.sizeOf3 (by omega) hrm (by omega)) (fun a hf => ?_)
 refine H.one (i := 8) rfl (by kernel_rfl) ?_
 have hfit1 : 0 + (k + v_.length) * 1 + (s_.drop k).length * Flat.sz Int ≤ cs.length := by rw [i1]; show 0 + (k + v_.length) * Flat.sz Int + _ ≤ _; rw [Nat.zero_add, ← Nat.add_mul, List.length_drop]; exact Nat.mul_le_mul_right _ (by omega)
 refine S.copyRaw 0 hf hs rfl rfl rfl rfl rfl rfl rfl Tryd.underlying48 hszE (s_.drop k) rfl (hs.rawView 0 rfl (0 + k * 1) (s_C - k) (s_.drop k) (shift_src hkn i4) (by rw [List.length_drop]; omega) (by omega)) (by rw [List.length_drop]; omega) hfit1 (fun a w hf hs => ?_)
 refine R.nil (X.then_ ?_)
 refine ⟨(hs.mask [false, true]), ?_⟩
 refine H.done (by kernel_rfl) ?_
 refine X.then_ ?_
 have hlc1 : (cs.take (0 + (k + v_.length) * 1) ++ (s_.drop k).flatMap Flat.enc ++ cs.drop (0 + (k + v_.length) * 1 + (s_.drop k).length * Flat.sz Int)).length = s_C * Flat.sz Int := by rw [← i1]; simp only [List.length_append, List.length_take, List.length_drop, length_flatMap_enc] at hfit1 ⊢; omega
 refine wp_seq (R.list ?_)
 refine S.val hf hs (v := .slice (some ⟨g1, 0, none⟩) (s_.length + v_.length) s_C) rfl rfl rfl (V.pure rfl) (fun a hf => ?_)
 refine S.val hf hs (v := .int .i64 (k : Int)) rfl rfl rfl (V.pure rfl) (fun a hf => ?_)
 refine S.val hf hs (v := .slice (some ⟨g1, 0 + k * 1, none⟩) (s_.length + v_.length - k) (s_C - k)) rfl rfl rfl (V.sliceFrom rfl rfl rfl Tryd.runUnderlying48 Tryd.sizeOf3 (by omega) hrm (by omega)) (fun a hf => ?_)
 refine S.val hf hs (v := .slice v_A v_.length v_C) rfl rfl rfl (V.pure rfl) (fun a hf => ?_)
 have hfit2 : 0 + k * 1 + v_.length * Flat.sz Int ≤ (cs.take (0 + (k + v_.length) * 1) ++ (s_.drop k).flatMap Flat.enc ++ cs.drop (0 + (k + v_.length) * 1 + (s_.drop k).length * Flat.sz Int)).length := by rw [hlc1]; show 0 + k * Flat.sz Int + _ ≤ _; rw [Nat.zero_add, ← Nat.add_mul]; exact Nat.mul_le_mul_right _ (by omega)
 refine S.copyRaw 0 hf hs rfl rfl rfl rfl rfl rfl rfl Tryd.underlying48 hszE v_ (hs.ownSome 1 rfl hm0) (hs.ownView 1 rfl) (by omega) hfit2 (fun a w hf hs => ?_)
 refine R.nil (X.then_ (wp_seq (R.list ?_)))
 refine S.val hf hs (v := .slice (some ⟨g1, 0, none⟩) (s_.length + v_.length) s_C) rfl rfl rfl (V.pure rfl) (fun a hf => ?_)
 refine S.val hf hs (v := .slice (some ⟨g1, 0, none⟩) (s_.length + v_.length) s_C) rfl rfl rfl (V.pure rfl) (fun a hf => ?_)
 refine R.nil (X.then_ (wp_ret (X.then_ret ?_)))
 have hs2 := hs.ofRaw 0 rfl (C := s_C) (s_.take k ++ v_ ++ s_.drop k) (by have h9 := hfit2; rw [← hlc1]; generalize (cs.take (0 + (k + v_.length) * 1) ++ (s_.drop k).flatMap Flat.enc ++ cs.drop (0 + (k + v_.length) * 1 + (s_.drop k).length * Flat.sz Int)) = D at h9 ⊢; rw [List.length_append, List.length_append, List.length_take, List.length_drop, length_flatMap_enc]; omega) (by simp only [List.length_append, List.length_take, List.length_drop]; omega) hCm (shift_cells hkn hfit1 hfit2 i4)
 have hlen : (s_.take k ++ v_ ++ s_.drop k).length = s_.length + v_.length := by simp only [List.length_append, List.length_take, List.length_drop]; omega
 exact L.ret hf (run_results1 Tryd.results79 (ResIs.tmp hf rfl)) ⟨s_.take k ++ v_ ++ s_.drop k, some ⟨g1, 0, none⟩, s_C, v_, rfl, by rw [hlen], hq, hs2⟩
set_option linter.unusedVariables false
def M_ref10_Ordered_k3 (k1 : Nat) (l2 : List Int) (next1 : List Int → Prop) (n2 : Int) (again2 : Int → Prop) (c1 : Bool) : Prop :=
  cnd c1 (again2 (w64 (n2 - 1))) (M_insert_int l2 n2 [(k1 : Int)] fun y2 z1 => next1 y2)
def M_ref10_Ordered_L2 (b : (List Body)) (l : (List Place)) (k1 : Nat) (xk1 : Place) (l2 : List Int) (next1 : List Int → Prop) (again2 : Int → Prop) (n2 : Int) : Prop :=
  cnd (decide (n2 > 0)) (idx l2 (w64 (n2 - 1)) fun x1 => idx l x1 fun x2 => M_ref10_before b xk1 x2 fun y3 => M_ref10_Ordered_k3 k1 l2 next1 n2 again2 y3) (M_ref10_Ordered_k3 k1 l2 next1 n2 again2 false)
def M_ref10_Ordered_L1 (b : (List Body)) (l : (List Place)) (k1 : Nat) (xk1 : Place) (l2 : List Int) (next1 : List Int → Prop) : Prop :=
  lp (fun again (s : Int) => M_ref10_Ordered_L2 b l k1 xk1 l2 next1 (fun n2 => again n2) s) (l2.length : Int)
def M_ref10_Ordered (b : (List Body)) (l : (List Place)) (Q : (List Int) → Int → Prop) : Prop :=
  M_ref10_CheckPlaces b l fun y1 => cnd (y1 != 0) (Q ([] : List Int) y1) (forIn' (fun k x (s : List Int) next => M_ref10_Ordered_L1 b l k x s (fun l2 => next l2)) (fun (s : List Int) => (fun (l2 : List Int) => Q l2 0) s) l 0 ([] : List Int))
set_option maxHeartbeats 1000000 in
theorem R_ref10_Ordered (b : (List Body)) (l : (List Place)) (w0 : World) (bA : Option Addr) (bC : Nat) (hv_b : View w0 (old w0 none_) bA bC b) (lA : Option Addr) (lC : Nat) (hv_l : View w0 (old w0 none_) lA lC l) (Q : (List Int) → Int → Prop) (h : M_ref10_Ordered b l Q) :
  Ret Tryd.prog 38 #[.slice bA b.length bC, .slice lA l.length lC] w0 fun v w' => ∃ (r0 : (List Int)) (r0A : Option Addr) (r0C : Nat) (r1 : Int), v = .tuple #[.slice r0A r0.length r0C, iv r1] ∧ Q r0 r1 ∧ Sat w0 none_ [hown 3 r0A r0C r0] w' := by
 refine fn_enter Tryd.func38 rfl Tryd.ntmps38 rfl (fs := [(0, .slice bA b.length bC), (1, .slice lA l.length lC)]) rfl (fun a hf => ?_)
 have hs := Sat.start w0 none_
 unfold M_ref10_Ordered at h
 refine wp_seq (R.list ?_)
 refine S.p hf hs (.slice none 0 0) rfl rfl fun a hf => ?_
 refine S.p hf hs (iv 0) rfl rfl fun a hf => ?_
 refine R.nil (X.then_ (wp_seq (wp_seq (R.list ?_))))
 refine S.p hf hs (.slice bA b.length bC) rfl rfl fun a hf => ?_
 refine S.p hf hs (.slice lA l.length lC) rfl rfl fun a hf => ?_
 refine S.call hf rfl rfl rfl (call_fn (vs := [.slice bA b.length bC, .slice lA l.length lC]) rfl rfl rfl Tryd.call36) (R_ref10_CheckPlaces b l _ bA bC ((Ag.args _ _ _).view hv_b hs) lA lC ((Ag.args _ _ _).view hv_l hs) _ h) (fun v a w' hf hr => ?_)
 obtain ⟨y1, rfl, h2, hs2⟩ := hr
 replace h := h2; replace hs := hs.call hs2; clear h2 hs2
 refine S.p hf hs (iv y1) rfl rfl fun a hf => ?_
 refine R.nil (X.then_ (wp_seq (R.list ?_)))
 refine S.p hf hs (iv y1) rfl rfl fun a hf => ?_
 refine S.p hf hs (.bool (y1 != 0)) rfl rfl fun a hf => ?_
 refine R.nil (X.then_ ?_)
 refine C.cond hf (b := y1 != 0) rfl (fun hc => ?_) (fun hc => ?_)
 ·replace h := h.1 hc
  refine wp_seq (R.list ?_)
  refine S.p hf hs (iv y1) rfl rfl fun a hf => ?_
  refine S.p hf hs (.slice none 0 0) rfl rfl fun a hf => ?_
  refine S.p hf hs (iv y1) rfl rfl fun a hf => ?_
  refine R.nil (X.then_ (wp_ret (X.then_ret ?_)))
  replace hs := hs.nilOwn (α := Int) 3
  replace hs := hs.take 1
  exact L.ret hf (run_results2 Tryd.results38 (ResIs.tmp hf rfl) (ResIs.tmp hf rfl)) ⟨([] : List Int), none, 0, y1, rfl, h, hs⟩
 ·replace h := h.2 hc
  refine wp_skip (X.then_ (wp_seq (R.list ?_)))
  refine S.p hf hs (.slice none 0 0) rfl rfl fun a hf => ?_
  refine R.nil (X.then_ (wp_seq (wp_seq (R.list ?_))))
  refine S.p hf hs (.slice lA l.length lC) rfl rfl fun a hf => ?_
  refine S.v hf hs (iv (l.length : Int)) rfl (V.len rfl rfl Tryd.runUnderlying23) fun a hf => ?_
  refine S.p hf hs (iv 0) rfl rfl fun a hf => ?_
  refine R.nil (X.then_ (wp_block ?_))
  replace hs := hs.nilOwn (α := Int) 3
  have hlenk1 := hv_l.len64
  refine C.range (fun (ll : List Place) a w => ∃ (k1 : Nat) (l2 : List Int) (l2A : Option Addr) (l2C : Nat), l.drop k1 = ll ∧ k1 + ll.length = l.length ∧ forIn' (fun k x (s : List Int) next => M_ref10_Ordered_L1 b l k x s (fun l2 => next l2)) (fun (s : List Int) => (fun (l2 : List Int) => Q l2 0) s) ll k1 l2 ∧ FrOk 50 [(19, iv (k1 : Int)), (0, .slice bA b.length bC), (1, .slice lA l.length lC), (7, .slice l2A l2.length l2C), (17, .slice lA l.length lC), (18, iv (l.length : Int))] a ∧ Sat w0 none_ [hown 3 l2A l2C l2] w) l ⟨0, ([] : List Int), none, 0, rfl, Nat.zero_add _, h, ((((((hf.nil.cons (hf.get 18 _ rfl)).cons (hf.get 17 _ rfl)).cons (hf.get 7 _ rfl)).cons (hf.get 1 _ rfl)).cons (hf.get 0 _ rfl)).cons (hf.get 19 _ rfl)), hs⟩ ?_
  clear h hf hs
  rintro llk1 a w ⟨k1, l2, l2A, l2C, hlk1, hkk1, h, hf, hs⟩
  cases llk1 with
  | nil =>
   have hc := range_done hkk1
   replace h : (fun (l2 : List Int) => Q l2 0) l2 := h
   refine wp_seq (R.list ?_)
   refine S.v hf hs (.bool false) rfl (V.cmp false rfl rfl rfl rfl hc) fun a hf => ?_
   refine R.nil (X.then_ (wp_seq ?_))
   refine C.no hf rfl ?_
   refine wp_exit (X.then_exit (X.then_exit (X.blk_exit (X.then_ (wp_seq (R.list ?_))))))
   refine S.p hf hs (.slice l2A l2.length l2C) rfl rfl fun a hf => ?_
   refine S.p hf hs (.slice l2A l2.length l2C) rfl rfl fun a hf => ?_
   refine S.p hf hs (iv 0) rfl rfl fun a hf => ?_
   refine R.nil (X.then_ (wp_ret ?_))
   replace hs := hs.take 1
   exact L.ret hf (run_results2 Tryd.results38 (ResIs.tmp hf rfl) (ResIs.tmp hf rfl)) ⟨l2, l2A, l2C, 0, rfl, h, hs⟩
  | cons xk1 llk1 =>
   have hltk1 := range_lt hkk1; have hc := range_go hkk1; have hxk1 := range_get hlk1
   obtain ⟨next1, hnext1⟩ : ∃ X : List Int → Prop, X = (fun l2 => forIn' (fun k x (s : List Int) next => M_ref10_Ordered_L1 b l k x s (fun l2 => next l2)) (fun (s : List Int) => (fun (l2 : List Int) => Q l2 0) s) llk1 (k1 + 1) l2) := ⟨_, rfl⟩
   replace h : M_ref10_Ordered_L1 b l k1 xk1 l2 next1 := by rw [hnext1]; exact h
   unfold M_ref10_Ordered_L1 at h
   refine wp_seq (R.list ?_)
   refine S.v hf hs (.bool true) rfl (V.cmp true rfl rfl rfl rfl hc) fun a hf => ?_
   refine R.nil (X.then_ (wp_seq ?_))
   refine C.yes hf rfl ?_
   refine wp_skip (X.then_ (wp_seq (wp_block (wp_seq (R.list ?_)))))
   refine S.p hf hs (iv (k1 : Int)) rfl rfl fun a hf => ?_
   refine S.v hf hs (elemPtr lA (k1 * 6)) rfl (V.index rfl rfl rfl Tryd.runUnderlying23 Tryd.sizeOf28 (hv_l.some_ (lt_of_get hxk1)) (Int.natCast_nonneg _) (lt_of_get hxk1) rfl) fun a hf => ?_
   refine S.v hf hs (.agg #[.string (ba xk1.Part), .string (ba xk1.Typ), iv xk1.At.X, iv xk1.At.Y, iv xk1.Quarters, .bool xk1.Below]) rfl (V.loadEl (off := 0) (Ag.args _ _ _) (hv_l.flat hxk1) rfl rfl rfl Tryd.isAgg28 Tryd.sizeOf28 rfl rfl) fun a hf => ?_
   refine S.alloc hf hs rfl rfl rfl [.string (ba []), .string (ba []), iv 0, iv 0, iv 0, .bool false] rfl Tryd.zeroValue28 rfl (fun g1 a w hf hs => ?_)
   refine S.p hf hs (iv (k1 : Int)) rfl rfl fun a hf => ?_
   refine S.storeBox 0 hf hs rfl rfl [.string (ba xk1.Part), .string (ba xk1.Typ), iv xk1.At.X, iv xk1.At.Y, iv xk1.Quarters, .bool xk1.Below] [.string (ba xk1.Part), .string (ba xk1.Typ), iv xk1.At.X, iv xk1.At.Y, iv xk1.Quarters, .bool xk1.Below] rfl rfl rfl rfl rfl Tryd.sizeOf28 rfl rfl rfl rfl (fun a w hf hs => ?_)
   refine R.nil (X.then_ (wp_seq (R.list ?_)))
   refine S.p hf hs (.slice l2A l2.length l2C) rfl rfl fun a hf => ?_
   refine S.v hf hs (iv (l2.length : Int)) rfl (V.len rfl rfl Tryd.runUnderlying48) fun a hf => ?_
   refine S.p hf hs (iv (l2.length : Int)) rfl rfl fun a hf => ?_
   refine R.nil (X.then_ (wp_seq (wp_block ?_)))
   obtain ⟨kk, h⟩ := h
   refine C.loop (fun kk a w => ∃ (n2 : Int), iterF (fun again (s : Int) => M_ref10_Ordered_L2 b l k1 xk1 l2 next1 (fun n2 => again n2) s) kk n2 ∧ FrOk 50 [(0, .slice bA b.length bC), (1, .slice lA l.length lC), (7, .slice l2A l2.length l2C), (8, iv (k1 : Int)), (9, (pn g1 0)), (10, iv n2), (17, .slice lA l.length lC), (18, iv (l.length : Int)), (19, iv (k1 : Int))] a ∧ Sat w0 none_ [hbox g1 28 [.string (ba xk1.Part), .string (ba xk1.Typ), iv xk1.At.X, iv xk1.At.Y, iv xk1.Quarters, .bool xk1.Below], hown 3 l2A l2C l2] w) kk ⟨(l2.length : Int), h, (((((((((hf.nil.cons (hf.get 19 _ rfl)).cons (hf.get 18 _ rfl)).cons (hf.get 17 _ rfl)).cons (hf.get 10 _ rfl)).cons (hf.get 9 _ rfl)).cons (hf.get 8 _ rfl)).cons (hf.get 7 _ rfl)).cons (hf.get 1 _ rfl)).cons (hf.get 0 _ rfl)), hs⟩ (fun a w ⟨_, h, _, _⟩ => h) ?_
   clear h hf hs
   rintro kk a w ⟨n2, h, hf, hs⟩
   obtain ⟨again2, hagain2⟩ : ∃ X : Int → Prop, X = (fun n2 => iterF (fun again (s : Int) => M_ref10_Ordered_L2 b l k1 xk1 l2 next1 (fun n2 => again n2) s) kk n2) := ⟨_, rfl⟩
   replace h : M_ref10_Ordered_L2 b l k1 xk1 l2 next1 again2 n2 := by rw [hagain2]; exact h
   unfold M_ref10_Ordered_L2 at h
   refine wp_seq (wp_seq ?_)
   refine C.cut (J := fun a w => ∃ (c1 : Bool), M_ref10_Ordered_k3 k1 l2 next1 n2 again2 c1 ∧ FrOk 50 [(0, .slice bA b.length bC), (1, .slice lA l.length lC), (7, .slice l2A l2.length l2C), (8, iv (k1 : Int)), (9, (pn g1 0)), (10, iv n2), (17, .slice lA l.length lC), (18, iv (l.length : Int)), (19, iv (k1 : Int)), (40, .bool c1)] a ∧ Sat w0 none_ [hbox g1 28 [.string (ba xk1.Part), .string (ba xk1.Typ), iv xk1.At.X, iv xk1.At.Y, iv xk1.Quarters, .bool xk1.Below], hown 3 l2A l2C l2] w) ?_ ?_
   ·rintro a w ⟨c1, h, hf, hs⟩
    unfold M_ref10_Ordered_k3 at h
    refine C.cond hf (b := c1) rfl (fun hc => ?_) (fun hc => ?_)
    ·replace h := h.1 hc
     refine wp_skip (X.then_ (wp_block (R.list ?_)))
     refine S.p hf hs (iv n2) rfl rfl fun a hf => ?_
     refine S.p hf hs (iv (w64 (n2 - 1))) rfl rfl fun a hf => ?_
     refine S.p hf hs (iv (w64 (n2 - 1))) rfl rfl fun a hf => ?_
     refine R.nil (X.blk (X.then_ ?_))
     exact ⟨(w64 (n2 - 1)), (by rw [hagain2] at h; exact h), (((((((((hf.nil.cons (hf.get 19 _ rfl)).cons (hf.get 18 _ rfl)).cons (hf.get 17 _ rfl)).cons (hf.get 10 _ rfl)).cons (hf.get 9 _ rfl)).cons (hf.get 8 _ rfl)).cons (hf.get 7 _ rfl)).cons (hf.get 1 _ rfl)).cons (hf.get 0 _ rfl)), hs⟩
    ·replace h := h.2 hc
     refine wp_exit (X.then_exit (X.then_exit (X.blk_exit (X.then_ (R.list ?_)))))
     refine S.p hf hs (.slice l2A l2.length l2C) rfl rfl fun a hf => ?_
     refine S.p hf hs (iv n2) rfl rfl fun a hf => ?_
     refine S.p hf hs (iv (k1 : Int)) rfl rfl fun a hf => ?_
     refine S.build1 hf hs rfl rfl rfl (α := Int) (k1 : Int) rfl rfl rfl Tryd.runUnderlying48 Tryd.sizeOf3 Tryd.zeroValue3 rfl (by decide) (fun A1 a w hf hs => ?_)
     replace hs := hs.front 2 rfl
     obtain ⟨F1, hsF, hback, hold, hrest⟩ := Sat.callOwns [hown 3 l2A l2C l2, hown 3 A1 1 [(k1 : Int)]] (σ := [hbox g1 28 [.string (ba xk1.Part), .string (ba xk1.Typ), iv xk1.At.X, iv xk1.At.Y, iv xk1.Quarters, .bool xk1.Below]]) hs
     refine S.call hf rfl rfl rfl (call_fn (vs := [.slice l2A l2.length l2C, iv n2, .slice A1 [(k1 : Int)].length 1]) rfl rfl rfl Tryd.call79) (R_insert_int l2 n2 [(k1 : Int)] _ _ l2A l2C A1 1 hsF _ h) (fun v a w' hf hr => ?_)
     obtain ⟨y2, y2A, y2C, z1, hl_z1, rfl, h2, hs2⟩ := hr
     replace h := h2; replace hs := hback _ _ hs2; clear h2 hs2 hback hold hrest hsF
     replace hf := hf.tell 46 (v := .slice A1 z1.length 1) ((hf.get 46 (.slice A1 [(k1 : Int)].length 1) rfl).trans (congrArg (fun n => Value.slice A1 n 1) hl_z1.symm))
     refine S.p hf hs (.slice y2A y2.length y2C) rfl rfl fun a hf => ?_
     refine R.nil (X.blk (X.then_ (R.list ?_)))
     refine S.v hf hs (iv ((k1 + 1 : Nat) : Int)) rfl (V.incr rfl rfl rfl hltk1 hlenk1) fun a hf => ?_
     refine S.p hf hs (iv ((k1 + 1 : Nat) : Int)) rfl rfl fun a hf => ?_
     refine R.nil (X.then_ ?_)
     replace hs := hs.take 1
     exact ⟨xk1, llk1, rfl, k1 + 1, y2, y2A, y2C, range_drop hlk1, range_len hkk1, (by rw [hnext1] at h; exact h), ((((((hf.nil.cons (hf.get 18 _ rfl)).cons (hf.get 17 _ rfl)).cons (hf.get 7 _ rfl)).cons (hf.get 1 _ rfl)).cons (hf.get 0 _ rfl)).cons (hf.get 19 _ rfl)), hs⟩
   ·skip
    refine H.start (S := Sat w0 none_ [hbox g1 28 [.string (ba xk1.Part), .string (ba xk1.Typ), iv xk1.At.X, iv xk1.At.Y, iv xk1.Quarters, .bool xk1.Below], hown 3 l2A l2C l2]) mo ?_
    replace hs := hs.drew
    refine H.v hf hs (iv n2) 0 rfl rfl (by kernel_rfl) (V.pure rfl) fun a hf => ?_
    refine H.v hf hs (.bool (decide (n2 > 0))) 1 rfl rfl (by kernel_rfl) (V.pure rfl) fun a hf => ?_
    refine H.split hf hs (b := decide (n2 > 0)) (i := 2) rfl rfl rfl rfl (by kernel_rfl) (by kernel_rfl) (by kernel_rfl) (V.pure rfl) (fun hc a hf => ?_) (fun hc a hf => ?_)
    ·replace h := h.1 hc
     refine H.v hf hs (.slice bA b.length bC) 3 rfl rfl (by kernel_rfl) (V.pure rfl) fun a hf => ?_
     refine H.v hf hs (.agg #[.string (ba xk1.Part), .string (ba xk1.Typ), iv xk1.At.X, iv xk1.At.Y, iv xk1.Quarters, .bool xk1.Below]) 4 rfl rfl (by kernel_rfl) (V.loadBox 0 rfl rfl rfl Tryd.isAgg28 Tryd.sizeOf28 rfl rfl) fun a hf => ?_
     refine H.v hf hs (.slice lA l.length lC) 5 rfl rfl (by kernel_rfl) (V.pure rfl) fun a hf => ?_
     refine H.v hf hs (.slice l2A l2.length l2C) 6 rfl rfl (by kernel_rfl) (V.pure rfl) fun a hf => ?_
     refine H.v hf hs (iv n2) 7 rfl rfl (by kernel_rfl) (V.pure rfl) fun a hf => ?_
     refine H.v hf hs (iv (w64 (n2 - 1))) 8 rfl rfl (by kernel_rfl) (V.pure rfl) fun a hf => ?_
     obtain ⟨h0x1, x1, hx1, h⟩ := h
     refine H.v hf hs (elemPtr l2A ((w64 (n2 - 1)).toNat * 1)) 9 rfl rfl (by kernel_rfl) (V.index rfl rfl rfl Tryd.runUnderlying48 Tryd.sizeOf3 (hs.ownSome 1 rfl (lt_of_get hx1)) h0x1 (lt_of_get hx1) rfl) fun a hf => ?_
     refine H.v hf hs (iv x1) 10 rfl rfl (by kernel_rfl) (V.loadOwn (off := 0) 1 rfl hx1 rfl rfl rfl Tryd.isAgg3 Tryd.sizeOf3 rfl rfl) fun a hf => ?_
     obtain ⟨h0x2, x2, hx2, h⟩ := h
     refine H.v hf hs (elemPtr lA (x1.toNat * 6)) 11 rfl rfl (by kernel_rfl) (V.index rfl rfl rfl Tryd.runUnderlying23 Tryd.sizeOf28 (hv_l.some_ (lt_of_get hx2)) h0x2 (lt_of_get hx2) rfl) fun a hf => ?_
     refine H.v hf hs (.agg #[.string (ba x2.Part), .string (ba x2.Typ), iv x2.At.X, iv x2.At.Y, iv x2.Quarters, .bool x2.Below]) 12 rfl rfl (by kernel_rfl) (V.loadEl (off := 0) (Ag.args _ _ _) (hv_l.flat hx2) rfl rfl rfl Tryd.isAgg28 Tryd.sizeOf28 rfl rfl) fun a hf => ?_
     refine H.one (i := 13) rfl (by kernel_rfl) ?_
     refine S.call hf rfl rfl rfl (call_fn (vs := [.slice bA b.length bC, .agg #[.string (ba xk1.Part), .string (ba xk1.Typ), iv xk1.At.X, iv xk1.At.Y, iv xk1.Quarters, .bool xk1.Below], .agg #[.string (ba x2.Part), .string (ba x2.Typ), iv x2.At.X, iv x2.At.Y, iv x2.Quarters, .bool x2.Below]]) rfl rfl rfl Tryd.call78) (R_ref10_before b xk1 x2 _ bA bC ((Ag.args _ _ _).view hv_b hs) _ h) (fun v a w' hf hr => ?_)
     obtain ⟨y3, rfl, h2, hs2⟩ := hr
     replace h := h2; replace hs := hs.call hs2; clear h2 hs2
     refine R.nil (X.then_ ?_)
     refine ⟨hs, ?_⟩
     refine H.v hf hs (.bool y3) 14 rfl rfl (by kernel_rfl) (V.pure rfl) fun a hf => ?_
     refine H.done (by kernel_rfl) ?_
     refine X.then_ ?_
     exact ⟨y3, h, ((((((((((hf.nil.cons (hf.get 40 _ rfl)).cons (hf.get 19 _ rfl)).cons (hf.get 18 _ rfl)).cons (hf.get 17 _ rfl)).cons (hf.get 10 _ rfl)).cons (hf.get 9 _ rfl)).cons (hf.get 8 _ rfl)).cons (hf.get 7 _ rfl)).cons (hf.get 1 _ rfl)).cons (hf.get 0 _ rfl)), hs⟩
    ·replace h := h.2 hc
     refine H.k hf hs 3 rfl rfl (by kernel_rfl) fun a hf => ?_
     refine H.k hf hs 4 rfl rfl (by kernel_rfl) fun a hf => ?_
     refine H.k hf hs 5 rfl rfl (by kernel_rfl) fun a hf => ?_
     refine H.k hf hs 6 rfl rfl (by kernel_rfl) fun a hf => ?_
     refine H.k hf hs 7 rfl rfl (by kernel_rfl) fun a hf => ?_
     refine H.k hf hs 8 rfl rfl (by kernel_rfl) fun a hf => ?_
     refine H.k hf hs 9 rfl rfl (by kernel_rfl) fun a hf => ?_
     refine H.k hf hs 10 rfl rfl (by kernel_rfl) fun a hf => ?_
     refine H.k hf hs 11 rfl rfl (by kernel_rfl) fun a hf => ?_
     refine H.k hf hs 12 rfl rfl (by kernel_rfl) fun a hf => ?_
     refine H.one (i := 13) rfl (by kernel_rfl) ?_
     refine S.k hf rfl fun a hf => ?_
     refine R.nil (X.then_ ?_)
     refine ⟨hs, ?_⟩
     refine H.v hf hs (.bool false) 14 rfl rfl (by kernel_rfl) (V.pure rfl) fun a hf => ?_
     refine H.done (by kernel_rfl) ?_
     refine X.then_ ?_
     exact ⟨false, h, ((((((((((hf.nil.cons (hf.get 40 _ rfl)).cons (hf.get 19 _ rfl)).cons (hf.get 18 _ rfl)).cons (hf.get 17 _ rfl)).cons (hf.get 10 _ rfl)).cons (hf.get 9 _ rfl)).cons (hf.get 8 _ rfl)).cons (hf.get 7 _ rfl)).cons (hf.get 1 _ rfl)).cons (hf.get 0 _ rfl)), hs⟩
set_option linter.unusedVariables false
def M_ref10_Rounds_k2 (xk1 : Int) (l2 : List (List Int)) (n2 : Int) (next1 : List (List Int) → Int → Prop) (x2 : Body) (c1 : Bool) : Prop :=
  cnd c1 (must (room (l2 ++ [[xk1]]).length 24) (next1 (l2 ++ [[xk1]]) x2.Tall)) (idx l2 (w64 ((l2.length : Int) - 1)) fun x3 => must (room (x3 ++ [xk1]).length 8) (next1 (l2.set ((w64 ((l2.length : Int) - 1)).toNat) (x3 ++ [xk1])) (max n2 x2.Tall)))
def M_ref10_Rounds_L1 (b : (List Body)) (l : (List Place)) (heads : Int) (k1 : Nat) (xk1 : Int) (l2 : List (List Int)) (n2 : Int) (next1 : List (List Int) → Int → Prop) : Prop :=
  idx l xk1 fun x1 => M_ref10_bodyOf b x1.Typ fun y3 => idx b y3 fun x2 => cnd ((l2.length : Int) == 0) (M_ref10_Rounds_k2 xk1 l2 n2 next1 x2 true) (idx l2 (w64 ((l2.length : Int) - 1)) fun x4 => cnd ((x4.length : Int) == heads) (M_ref10_Rounds_k2 xk1 l2 n2 next1 x2 true) (idx x4 0 fun x5 => idx l x5 fun x6 => cnd (!(x6.Below == x1.Below)) (M_ref10_Rounds_k2 xk1 l2 n2 next1 x2 true) (M_ref10_Rounds_k2 xk1 l2 n2 next1 x2 (decide (x2.Tall < n2)))))
def M_ref10_Rounds (b : (List Body)) (l : (List Place)) (order : (List Int)) (heads : Int) (Q : (List (List Int)) → Int → Prop) : Prop :=
  M_ref10_CheckPlaces b l fun y1 => cnd (y1 != 0) (Q ([] : List (List Int)) y1) (M_ref10_IsOrder order (l.length : Int) fun y2 => cnd (!y2) (Q ([] : List (List Int)) 3) (cnd (!(within heads 1 20)) (Q ([] : List (List Int)) 1) (forIn' (fun k x (s : List (List Int) × Int) next => M_ref10_Rounds_L1 b l heads k x s.1 s.2 (fun l2 n2 => next (l2, n2))) (fun (s : List (List Int) × Int) => (fun (l2 : List (List Int)) (n2 : Int) => Q l2 0) s.1 s.2) order 0 (([] : List (List Int)), 0))))
set_option maxHeartbeats 1000000 in
theorem R_ref10_Rounds (b : (List Body)) (l : (List Place)) (order : (List Int)) (heads : Int) (w0 : World) (bA : Option Addr) (bC : Nat) (hv_b : View w0 (old w0 none_) bA bC b) (lA : Option Addr) (lC : Nat) (hv_l : View w0 (old w0 none_) lA lC l) (orderA : Option Addr) (orderC : Nat) (hv_order : View w0 (old w0 none_) orderA orderC order) (Q : (List (List Int)) → Int → Prop) (h : M_ref10_Rounds b l order heads Q) :
  Ret Tryd.prog 39 #[.slice bA b.length bC, .slice lA l.length lC, .slice orderA order.length orderC, iv heads] w0 fun v w' => ∃ (r0 : (List (List Int))) (r0A : Option Addr) (r0C : Nat) (r0as : List (Option Addr × Nat)) (r1 : Int), v = .tuple #[.slice r0A r0.length r0C, iv r1] ∧ Q r0 r1 ∧ Sat w0 none_ [hrows 48 3 r0A r0C r0as r0] w' := by
 refine fn_enter Tryd.func39 rfl Tryd.ntmps39 rfl (fs := [(0, .slice bA b.length bC), (1, .slice lA l.length lC), (2, .slice orderA order.length orderC), (3, iv heads)]) rfl (fun a hf => ?_)
 have hs := Sat.start w0 none_
 unfold M_ref10_Rounds at h
 refine wp_seq (R.list ?_)
 refine S.p hf hs (.slice none 0 0) rfl rfl fun a hf => ?_
 refine S.p hf hs (iv 0) rfl rfl fun a hf => ?_
 refine R.nil (X.then_ (wp_seq (wp_seq (R.list ?_))))
 refine S.p hf hs (.slice bA b.length bC) rfl rfl fun a hf => ?_
 refine S.p hf hs (.slice lA l.length lC) rfl rfl fun a hf => ?_
 refine S.call hf rfl rfl rfl (call_fn (vs := [.slice bA b.length bC, .slice lA l.length lC]) rfl rfl rfl Tryd.call36) (R_ref10_CheckPlaces b l _ bA bC ((Ag.args _ _ _).view hv_b hs) lA lC ((Ag.args _ _ _).view hv_l hs) _ h) (fun v a w' hf hr => ?_)
 obtain ⟨y1, rfl, h2, hs2⟩ := hr
 replace h := h2; replace hs := hs.call hs2; clear h2 hs2
 refine S.p hf hs (iv y1) rfl rfl fun a hf => ?_
 refine R.nil (X.then_ (wp_seq (R.list ?_)))
 refine S.p hf hs (iv y1) rfl rfl fun a hf => ?_
 refine S.p hf hs (.bool (y1 != 0)) rfl rfl fun a hf => ?_
 refine R.nil (X.then_ ?_)
 refine C.cond hf (b := y1 != 0) rfl (fun hc => ?_) (fun hc => ?_)
 ·replace h := h.1 hc
  refine wp_seq (R.list ?_)
  refine S.p hf hs (iv y1) rfl rfl fun a hf => ?_
  refine S.p hf hs (.slice none 0 0) rfl rfl fun a hf => ?_
  refine S.p hf hs (iv y1) rfl rfl fun a hf => ?_
  refine R.nil (X.then_ (wp_ret (X.then_ret ?_)))
  replace hs := hs.nilRows (α := (List Int)) 48 3
  replace hs := hs.take 1
  exact L.ret hf (run_results2 Tryd.results39 (ResIs.tmp hf rfl) (ResIs.tmp hf rfl)) ⟨([] : List (List Int)), none, 0, [], y1, rfl, h, hs⟩
 ·replace h := h.2 hc
  refine wp_skip (X.then_ (wp_seq (wp_seq (R.list ?_))))
  refine S.p hf hs (.slice orderA order.length orderC) rfl rfl fun a hf => ?_
  refine S.p hf hs (.slice lA l.length lC) rfl rfl fun a hf => ?_
  refine S.v hf hs (iv (l.length : Int)) rfl (V.len rfl rfl Tryd.runUnderlying23) fun a hf => ?_
  refine S.call hf rfl rfl rfl (call_fn (vs := [.slice orderA order.length orderC, iv (l.length : Int)]) rfl rfl rfl Tryd.call25) (R_ref10_IsOrder order (l.length : Int) _ orderA orderC ((Ag.args _ _ _).view hv_order hs) _ h) (fun v a w' hf hr => ?_)
  obtain ⟨y2, rfl, h2, hs2⟩ := hr
  replace h := h2; replace hs := hs.call hs2; clear h2 hs2
  refine S.p hf hs (.bool (!y2)) rfl rfl fun a hf => ?_
  refine R.nil (X.then_ ?_)
  refine C.cond hf (b := !y2) rfl (fun hc => ?_) (fun hc => ?_)
  ·replace h := h.1 hc
   refine wp_seq (R.list ?_)
   refine S.p hf hs (.slice none 0 0) rfl rfl fun a hf => ?_
   refine S.p hf hs (iv 3) rfl rfl fun a hf => ?_
   refine R.nil (X.then_ (wp_ret (X.then_ret ?_)))
   replace hs := hs.nilRows (α := (List Int)) 48 3
   replace hs := hs.take 1
   exact L.ret hf (run_results2 Tryd.results39 (ResIs.tmp hf rfl) (ResIs.tmp hf rfl)) ⟨([] : List (List Int)), none, 0, [], 3, rfl, h, hs⟩
  ·replace h := h.2 hc
   refine wp_skip (X.then_ (wp_seq (wp_seq (R.list ?_))))
   refine S.p hf hs (iv heads) rfl rfl fun a hf => ?_
   refine S.callv hf rfl rfl rfl (call_fn (vs := [iv heads, iv 1, iv 20]) rfl rfl rfl Tryd.call51) (C_ref10_within heads 1 20 _ ) (fun a w hf hs' => ?_)
   replace hs := hs.call hs'; clear hs'
   refine S.p hf hs (.bool (!(within heads 1 20))) rfl rfl fun a hf => ?_
   refine R.nil (X.then_ ?_)
   refine C.cond hf (b := !(within heads 1 20)) rfl (fun hc => ?_) (fun hc => ?_)
   ·replace h := h.1 hc
    refine wp_seq (R.list ?_)
    refine S.p hf hs (.slice none 0 0) rfl rfl fun a hf => ?_
    refine S.p hf hs (iv 1) rfl rfl fun a hf => ?_
    refine R.nil (X.then_ (wp_ret (X.then_ret ?_)))
    replace hs := hs.nilRows (α := (List Int)) 48 3
    replace hs := hs.take 1
    exact L.ret hf (run_results2 Tryd.results39 (ResIs.tmp hf rfl) (ResIs.tmp hf rfl)) ⟨([] : List (List Int)), none, 0, [], 1, rfl, h, hs⟩
   ·replace h := h.2 hc
    refine wp_skip (X.then_ (wp_seq (R.list ?_)))
    refine S.p hf hs (.slice none 0 0) rfl rfl fun a hf => ?_
    refine R.nil (X.then_ (wp_seq (R.list ?_)))
    refine S.p hf hs (iv 0) rfl rfl fun a hf => ?_
    refine R.nil (X.then_ (wp_seq (wp_seq (R.list ?_))))
    refine S.p hf hs (.slice orderA order.length orderC) rfl rfl fun a hf => ?_
    refine S.v hf hs (iv (order.length : Int)) rfl (V.len rfl rfl Tryd.runUnderlying48) fun a hf => ?_
    refine S.p hf hs (iv 0) rfl rfl fun a hf => ?_
    refine R.nil (X.then_ (wp_block ?_))
    replace hs := hs.nilRows (α := (List Int)) 48 3
    have hlenk1 := hv_order.len64
    refine C.range (fun (ll : List Int) a w => ∃ (k1 : Nat) (l2 : List (List Int)) (l2A : Option Addr) (l2C : Nat) (l2as : List (Option Addr × Nat)) (n2 : Int), order.drop k1 = ll ∧ k1 + ll.length = order.length ∧ forIn' (fun k x (s : List (List Int) × Int) next => M_ref10_Rounds_L1 b l heads k x s.1 s.2 (fun l2 n2 => next (l2, n2))) (fun (s : List (List Int) × Int) => (fun (l2 : List (List Int)) (n2 : Int) => Q l2 0) s.1 s.2) ll k1 (l2, n2) ∧ FrOk 109 [(33, iv (k1 : Int)), (0, .slice bA b.length bC), (1, .slice lA l.length lC), (3, iv heads), (11, .slice l2A l2.length l2C), (12, iv n2), (31, .slice orderA order.length orderC), (32, iv (order.length : Int))] a ∧ Sat w0 none_ [hrows 48 3 l2A l2C l2as l2] w) order ⟨0, ([] : List (List Int)), none, 0, ([] : List (Option Addr × Nat)), 0, rfl, Nat.zero_add _, h, ((((((((hf.nil.cons (hf.get 32 _ rfl)).cons (hf.get 31 _ rfl)).cons (hf.get 12 _ rfl)).cons (hf.get 11 _ rfl)).cons (hf.get 3 _ rfl)).cons (hf.get 1 _ rfl)).cons (hf.get 0 _ rfl)).cons (hf.get 33 _ rfl)), hs⟩ ?_
    clear h hf hs
    rintro llk1 a w ⟨k1, l2, l2A, l2C, l2as, n2, hlk1, hkk1, h, hf, hs⟩
    cases llk1 with
    | nil =>
     have hc := range_done hkk1
     replace h : (fun (l2 : List (List Int)) (n2 : Int) => Q l2 0) l2 n2 := h
     refine wp_seq (R.list ?_)
     refine S.v hf hs (.bool false) rfl (V.cmp false rfl rfl rfl rfl hc) fun a hf => ?_
     refine R.nil (X.then_ (wp_seq ?_))
     refine C.no hf rfl ?_
     refine wp_exit (X.then_exit (X.then_exit (X.blk_exit (X.then_ (wp_seq (R.list ?_))))))
     refine S.p hf hs (.slice l2A l2.length l2C) rfl rfl fun a hf => ?_
     refine S.p hf hs (.slice l2A l2.length l2C) rfl rfl fun a hf => ?_
     refine S.p hf hs (iv 0) rfl rfl fun a hf => ?_
     refine R.nil (X.then_ (wp_ret ?_))
     replace hs := hs.take 1
     exact L.ret hf (run_results2 Tryd.results39 (ResIs.tmp hf rfl) (ResIs.tmp hf rfl)) ⟨l2, l2A, l2C, l2as, 0, rfl, h, hs⟩
    | cons xk1 llk1 =>
     have hltk1 := range_lt hkk1; have hc := range_go hkk1; have hxk1 := range_get hlk1
     obtain ⟨next1, hnext1⟩ : ∃ X : List (List Int) → Int → Prop, X = (fun l2 n2 => forIn' (fun k x (s : List (List Int) × Int) next => M_ref10_Rounds_L1 b l heads k x s.1 s.2 (fun l2 n2 => next (l2, n2))) (fun (s : List (List Int) × Int) => (fun (l2 : List (List Int)) (n2 : Int) => Q l2 0) s.1 s.2) llk1 (k1 + 1) (l2, n2)) := ⟨_, rfl⟩
     replace h : M_ref10_Rounds_L1 b l heads k1 xk1 l2 n2 next1 := by rw [hnext1]; exact h
     unfold M_ref10_Rounds_L1 at h
     refine wp_seq (R.list ?_)
     refine S.v hf hs (.bool true) rfl (V.cmp true rfl rfl rfl rfl hc) fun a hf => ?_
     refine R.nil (X.then_ (wp_seq ?_))
     refine C.yes hf rfl ?_
     refine wp_skip (X.then_ (wp_seq (wp_block (wp_seq (R.list ?_)))))
     refine S.v hf hs (elemPtr orderA (k1 * 1)) rfl (V.index rfl rfl rfl Tryd.runUnderlying48 Tryd.sizeOf3 (hv_order.some_ (lt_of_get hxk1)) (Int.natCast_nonneg _) (lt_of_get hxk1) rfl) fun a hf => ?_
     refine S.v hf hs (iv xk1) rfl (V.loadEl (off := 0) (Ag.args _ _ _) (hv_order.flat hxk1) rfl rfl rfl Tryd.isAgg3 Tryd.sizeOf3 rfl rfl) fun a hf => ?_
     refine S.p hf hs (iv xk1) rfl rfl fun a hf => ?_
     refine R.nil (X.then_ (wp_seq (R.list ?_)))
     refine S.p hf hs (.slice bA b.length bC) rfl rfl fun a hf => ?_
     refine S.p hf hs (.slice bA b.length bC) rfl rfl fun a hf => ?_
     refine S.p hf hs (.slice lA l.length lC) rfl rfl fun a hf => ?_
     refine S.p hf hs (iv xk1) rfl rfl fun a hf => ?_
     obtain ⟨h0x1, x1, hx1, h⟩ := h
     refine S.v hf hs (elemPtr lA (xk1.toNat * 6)) rfl (V.index rfl rfl rfl Tryd.runUnderlying23 Tryd.sizeOf28 (hv_l.some_ (lt_of_get hx1)) h0x1 (lt_of_get hx1) rfl) fun a hf => ?_
     refine S.v hf hs (elemPtr lA (xk1.toNat * 6 + 1)) rfl (V.fieldEl rfl rfl (hv_l.some_ (lt_of_get hx1)) Tryd.runUnderlying28 rfl Tryd.sizeOf9 rfl rfl) fun a hf => ?_
     refine S.v hf hs (.string (ba x1.Typ)) rfl (V.loadEl (off := 1) (Ag.args _ _ _) (hv_l.flat hx1) rfl rfl rfl Tryd.isAgg9 Tryd.sizeOf9 rfl rfl) fun a hf => ?_
     refine S.call hf rfl rfl rfl (call_fn (vs := [.slice bA b.length bC, .string (ba x1.Typ)]) rfl rfl rfl Tryd.call66) (R_ref10_bodyOf b x1.Typ _ bA bC ((Ag.args _ _ _).view hv_b hs) _ h) (fun v a w' hf hr => ?_)
     obtain ⟨y3, rfl, h2, hs2⟩ := hr
     replace h := h2; replace hs := hs.call hs2; clear h2 hs2
     obtain ⟨h0x2, x2, hx2, h⟩ := h
     refine S.v hf hs (elemPtr bA (y3.toNat * 5)) rfl (V.index rfl rfl rfl Tryd.runUnderlying22 Tryd.sizeOf95 (hv_b.some_ (lt_of_get hx2)) h0x2 (lt_of_get hx2) rfl) fun a hf => ?_
     refine S.v hf hs (elemPtr bA (y3.toNat * 5 + 3)) rfl (V.fieldEl rfl rfl (hv_b.some_ (lt_of_get hx2)) Tryd.runUnderlying95 rfl Tryd.sizeOf3 rfl rfl) fun a hf => ?_
     refine S.v hf hs (iv x2.Tall) rfl (V.loadEl (off := 3) (Ag.args _ _ _) (hv_b.flat hx2) rfl rfl rfl Tryd.isAgg3 Tryd.sizeOf3 rfl rfl) fun a hf => ?_
     refine S.p hf hs (iv x2.Tall) rfl rfl fun a hf => ?_
     refine R.nil (X.then_ (wp_seq (R.list ?_)))
     refine S.p hf hs (.slice l2A l2.length l2C) rfl rfl fun a hf => ?_
     refine S.v hf hs (iv (l2.length : Int)) rfl (V.len rfl rfl Tryd.runUnderlying61) fun a hf => ?_
     refine S.p hf hs (iv (l2.length : Int)) rfl rfl fun a hf => ?_
     refine R.nil (X.then_ (wp_seq (wp_seq ?_)))
     refine C.cut (J := fun a w => ∃ (c1 : Bool), M_ref10_Rounds_k2 xk1 l2 n2 next1 x2 c1 ∧ FrOk 109 [(0, .slice bA b.length bC), (1, .slice lA l.length lC), (3, iv heads), (11, .slice l2A l2.length l2C), (12, iv n2), (14, iv xk1), (15, iv x2.Tall), (16, iv (l2.length : Int)), (31, .slice orderA order.length orderC), (32, iv (order.length : Int)), (33, iv (k1 : Int)), (85, .bool c1)] a ∧ Sat w0 none_ [hrows 48 3 l2A l2C l2as l2] w) ?_ ?_
     ·rintro a w ⟨c1, h, hf, hs⟩
      unfold M_ref10_Rounds_k2 at h
      refine C.cond hf (b := c1) rfl (fun hc => ?_) (fun hc => ?_)
      ·replace h := h.1 hc
       refine wp_seq (R.list ?_)
       refine S.p hf hs (.slice l2A l2.length l2C) rfl rfl fun a hf => ?_
       refine S.p hf hs (iv xk1) rfl rfl fun a hf => ?_
       refine S.build1 hf hs rfl rfl rfl (α := Int) xk1 rfl rfl rfl Tryd.runUnderlying48 Tryd.sizeOf3 Tryd.zeroValue3 rfl (by decide) (fun A1 a w hf hs => ?_)
       refine S.build1 hf hs rfl rfl rfl (α := Sl) (⟨A1, [xk1].length, 1⟩ : Sl) rfl rfl rfl Tryd.runUnderlying61 Tryd.sizeOf48 Tryd.zeroValue48 rfl (by decide) (fun A2 a w hf hs => ?_)
       replace hs := hs.front 1 rfl
       obtain ⟨hroom, h⟩ := h
       refine S.appendRow 1 hf hs rfl rfl rfl [xk1] rfl rfl rfl rfl rfl Tryd.underlying61 info48 rfl hroom ((hs.ownView 1 rfl).some_ (i := 0) (by simp)) (hs.ownView 1 rfl) (fun A3 C1 a w hf hs => ?_)
       replace hs := hs.drop
       have hx1 : (l2 ++ [[xk1]])[l2.length]? = some [xk1] := List.getElem?_concat_length
       have hr1 : (l2as ++ [(A1, 1)])[l2.length]? = some (A1, 1) := rows_last (hs.rowsLen 0 rfl)
       refine S.p hf hs (iv x2.Tall) rfl rfl fun a hf => ?_
       refine S.p hf hs (.slice A3 (l2 ++ [[xk1]]).length C1) rfl rfl fun a hf => ?_
       refine S.p hf hs (iv x2.Tall) rfl rfl fun a hf => ?_
       refine R.nil (X.then_ (wp_exit (X.then_exit (X.blk_exit (X.then_ (R.list ?_))))))
       refine S.v hf hs (iv ((k1 + 1 : Nat) : Int)) rfl (V.incr rfl rfl rfl hltk1 hlenk1) fun a hf => ?_
       refine S.p hf hs (iv ((k1 + 1 : Nat) : Int)) rfl rfl fun a hf => ?_
       refine R.nil (X.then_ ?_)
       exact ⟨xk1, llk1, rfl, k1 + 1, (l2 ++ [[xk1]]), A3, C1, (l2as ++ [(A1, 1)]), x2.Tall, range_drop hlk1, range_len hkk1, (by rw [hnext1] at h; exact h), ((((((((hf.nil.cons (hf.get 32 _ rfl)).cons (hf.get 31 _ rfl)).cons (hf.get 12 _ rfl)).cons (hf.get 11 _ rfl)).cons (hf.get 3 _ rfl)).cons (hf.get 1 _ rfl)).cons (hf.get 0 _ rfl)).cons (hf.get 33 _ rfl)), hs⟩
      ·replace h := h.2 hc
       refine wp_skip (X.then_ (R.list ?_))
       refine S.p hf hs (.slice l2A l2.length l2C) rfl rfl fun a hf => ?_
       refine S.p hf hs (iv (l2.length : Int)) rfl rfl fun a hf => ?_
       refine S.p hf hs (iv (w64 ((l2.length : Int) - 1))) rfl rfl fun a hf => ?_
       refine S.p hf hs (.slice l2A l2.length l2C) rfl rfl fun a hf => ?_
       refine S.p hf hs (iv (l2.length : Int)) rfl rfl fun a hf => ?_
       refine S.p hf hs (iv (w64 ((l2.length : Int) - 1))) rfl rfl fun a hf => ?_
       obtain ⟨h0x3, x3, hx3, h⟩ := h
       refine S.v hf hs (elemPtr l2A ((w64 ((l2.length : Int) - 1)).toNat * 1)) rfl (V.index rfl rfl rfl Tryd.runUnderlying61 Tryd.sizeOf48 (hs.rowsSome 0 rfl hx3) h0x3 (lt_of_get hx3) rfl) fun a hf => ?_
       obtain ⟨B1, D1, hrB1⟩ := hs.rowAt 0 rfl hx3
       refine S.v hf hs (.slice B1 x3.length D1) rfl (V.loadRows (off := 0) 0 rfl hx3 hrB1 rfl rfl rfl Tryd.isAgg48 Tryd.sizeOf48 rfl rfl) fun a hf => ?_
       refine S.p hf hs (iv xk1) rfl rfl fun a hf => ?_
       refine S.build1 hf hs rfl rfl rfl (α := Int) xk1 rfl rfl rfl Tryd.runUnderlying48 Tryd.sizeOf3 Tryd.zeroValue3 rfl (by decide) (fun A4 a w hf hs => ?_)
       replace hs := hs.takeRow 1 rfl hx3 hrB1
       obtain ⟨hroom, h⟩ := h
       refine S.appendCells 0 hf hs rfl rfl rfl rfl rfl rfl rfl Tryd.underlying48 info3 rfl hroom ((hs.ownView 1 rfl).some_ (i := 0) (by simp)) (hs.ownView 1 rfl) (fun A5 C2 a w hf hs => ?_)
       refine S.p hf hs (iv n2) rfl rfl fun a hf => ?_
       refine S.p hf hs (iv x2.Tall) rfl rfl fun a hf => ?_
       refine S.v hf hs (iv (max n2 x2.Tall)) rfl (V.max2 rfl rfl rfl) fun a hf => ?_
       refine S.v hf hs (elemPtr l2A ((w64 ((l2.length : Int) - 1)).toNat * 1)) rfl (V.index rfl rfl rfl Tryd.runUnderlying61 Tryd.sizeOf48 (hs.rowsSomeX 2 rfl hx3) h0x3 (lt_of_get hx3) rfl) fun a hf => ?_
       refine S.putBack (off := 0) 1 hf hs rfl rfl (x3 ++ [xk1]) [.slice A5 (x3 ++ [xk1]).length C2] rfl hx3 hrB1 rfl rfl rfl rfl rfl rfl Tryd.sizeOf48 rfl (by decide) rfl rfl (fun a w hf hs => ?_)
       replace hf := hf.tell 11 (v := .slice l2A (l2.set ((w64 ((l2.length : Int) - 1)).toNat) (x3 ++ [xk1])).length l2C) ((hf.get 11 (.slice l2A l2.length l2C) rfl).trans (congrArg (fun n => Value.slice l2A n l2C) List.length_set.symm))
       replace hf := hf.tell 92 (v := .slice l2A (l2.set ((w64 ((l2.length : Int) - 1)).toNat) (x3 ++ [xk1])).length l2C) ((hf.get 92 (.slice l2A l2.length l2C) rfl).trans (congrArg (fun n => Value.slice l2A n l2C) List.length_set.symm))
       replace hf := hf.tell 95 (v := .slice l2A (l2.set ((w64 ((l2.length : Int) - 1)).toNat) (x3 ++ [xk1])).length l2C) ((hf.get 95 (.slice l2A l2.length l2C) rfl).trans (congrArg (fun n => Value.slice l2A n l2C) List.length_set.symm))
       have hx2 : (l2.set ((w64 ((l2.length : Int) - 1)).toNat) (x3 ++ [xk1]))[(w64 ((l2.length : Int) - 1)).toNat]? = some (x3 ++ [xk1]) := List.getElem?_set_self (lt_of_get hx3)
       have hr2 : (l2as.set ((w64 ((l2.length : Int) - 1)).toNat) (A5, C2))[(w64 ((l2.length : Int) - 1)).toNat]? = some (A5, C2) := List.getElem?_set_self (lt_of_get hrB1)
       refine S.p hf hs (iv (max n2 x2.Tall)) rfl rfl fun a hf => ?_
       refine R.nil (X.blk (X.then_ (R.list ?_)))
       refine S.v hf hs (iv ((k1 + 1 : Nat) : Int)) rfl (V.incr rfl rfl rfl hltk1 hlenk1) fun a hf => ?_
       refine S.p hf hs (iv ((k1 + 1 : Nat) : Int)) rfl rfl fun a hf => ?_
       refine R.nil (X.then_ ?_)
       exact ⟨xk1, llk1, rfl, k1 + 1, (l2.set ((w64 ((l2.length : Int) - 1)).toNat) (x3 ++ [xk1])), l2A, l2C, (l2as.set ((w64 ((l2.length : Int) - 1)).toNat) (A5, C2)), (max n2 x2.Tall), range_drop hlk1, range_len hkk1, (by rw [hnext1] at h; exact h), ((((((((hf.nil.cons (hf.get 32 _ rfl)).cons (hf.get 31 _ rfl)).cons (hf.get 12 _ rfl)).cons (hf.get 11 _ rfl)).cons (hf.get 3 _ rfl)).cons (hf.get 1 _ rfl)).cons (hf.get 0 _ rfl)).cons (hf.get 33 _ rfl)), hs.drop⟩
     ·skip
      refine R.draw mo (by kernel_rfl) hs ?_
      refine D.p hf (iv (l2.length : Int)) rfl rfl fun a hf => ?_
      refine D.p hf (.bool ((l2.length : Int) == 0)) rfl rfl fun a hf => ?_
      refine D.split hf (b := (l2.length : Int) == 0) rfl rfl rfl (V.pure rfl) (fun hc a hf => ?_) (fun hc a hf => ?_)
      ·replace h := h.1 hc
       refine D.k hf rfl fun a hf => ?_
       refine D.k hf rfl fun a hf => ?_
       refine D.k hf rfl fun a hf => ?_
       refine D.k hf rfl fun a hf => ?_
       refine D.k hf rfl fun a hf => ?_
       refine D.k hf rfl fun a hf => ?_
       refine D.k hf rfl fun a hf => ?_
       refine D.k hf rfl fun a hf => ?_
       refine D.p hf (.bool true) rfl rfl fun a hf => ?_
       refine D.p hf (.bool true) rfl rfl fun a hf => ?_
       refine D.k hf rfl fun a hf => ?_
       refine D.k hf rfl fun a hf => ?_
       refine D.k hf rfl fun a hf => ?_
       refine D.k hf rfl fun a hf => ?_
       refine D.k hf rfl fun a hf => ?_
       refine D.k hf rfl fun a hf => ?_
       refine D.k hf rfl fun a hf => ?_
       refine D.k hf rfl fun a hf => ?_
       refine D.k hf rfl fun a hf => ?_
       refine D.k hf rfl fun a hf => ?_
       refine D.k hf rfl fun a hf => ?_
       refine D.k hf rfl fun a hf => ?_
       refine D.k hf rfl fun a hf => ?_
       refine D.k hf rfl fun a hf => ?_
       refine D.k hf rfl fun a hf => ?_
       refine D.k hf rfl fun a hf => ?_
       refine D.k hf rfl fun a hf => ?_
       refine D.p hf (.bool true) rfl rfl fun a hf => ?_
       refine D.p hf (.bool true) rfl rfl fun a hf => ?_
       refine D.k hf rfl fun a hf => ?_
       refine D.k hf rfl fun a hf => ?_
       refine D.k hf rfl fun a hf => ?_
       refine D.p hf (.bool true) rfl rfl fun a hf => ?_
       refine D.done (fun w hs => ?_)
       refine X.then_ ?_
       exact ⟨true, h, ((((((((((((hf.nil.cons (hf.get 85 _ rfl)).cons (hf.get 33 _ rfl)).cons (hf.get 32 _ rfl)).cons (hf.get 31 _ rfl)).cons (hf.get 16 _ rfl)).cons (hf.get 15 _ rfl)).cons (hf.get 14 _ rfl)).cons (hf.get 12 _ rfl)).cons (hf.get 11 _ rfl)).cons (hf.get 3 _ rfl)).cons (hf.get 1 _ rfl)).cons (hf.get 0 _ rfl)), hs⟩
      ·replace h := h.2 hc
       refine D.p hf (.slice l2A l2.length l2C) rfl rfl fun a hf => ?_
       refine D.p hf (iv (l2.length : Int)) rfl rfl fun a hf => ?_
       refine D.p hf (iv (w64 ((l2.length : Int) - 1))) rfl rfl fun a hf => ?_
       obtain ⟨h0x4, x4, hx4, h⟩ := h
       refine D.v hf (elemPtr l2A ((w64 ((l2.length : Int) - 1)).toNat * 1)) rfl (V.index rfl rfl rfl Tryd.runUnderlying61 Tryd.sizeOf48 (hs.rowsSome 0 rfl hx4) h0x4 (lt_of_get hx4) rfl) fun a hf => ?_
       obtain ⟨B2, D2, hrB2⟩ := hs.rowAt 0 rfl hx4
       refine D.v hf (.slice B2 x4.length D2) rfl (V.loadRows (off := 0) 0 rfl hx4 hrB2 rfl rfl rfl Tryd.isAgg48 Tryd.sizeOf48 rfl rfl) fun a hf => ?_
       refine D.v hf (iv (x4.length : Int)) rfl (V.len rfl rfl Tryd.runUnderlying48) fun a hf => ?_
       refine D.p hf (iv heads) rfl rfl fun a hf => ?_
       refine D.p hf (.bool ((x4.length : Int) == heads)) rfl rfl fun a hf => ?_
       refine D.p hf (.bool ((x4.length : Int) == heads)) rfl rfl fun a hf => ?_
       refine D.split hf (b := (x4.length : Int) == heads) rfl rfl rfl (V.pure rfl) (fun hc a hf => ?_) (fun hc a hf => ?_)
       ·replace h := h.1 hc
        refine D.k hf rfl fun a hf => ?_
        refine D.k hf rfl fun a hf => ?_
        refine D.k hf rfl fun a hf => ?_
        refine D.k hf rfl fun a hf => ?_
        refine D.k hf rfl fun a hf => ?_
        refine D.k hf rfl fun a hf => ?_
        refine D.k hf rfl fun a hf => ?_
        refine D.k hf rfl fun a hf => ?_
        refine D.k hf rfl fun a hf => ?_
        refine D.k hf rfl fun a hf => ?_
        refine D.k hf rfl fun a hf => ?_
        refine D.k hf rfl fun a hf => ?_
        refine D.k hf rfl fun a hf => ?_
        refine D.k hf rfl fun a hf => ?_
        refine D.k hf rfl fun a hf => ?_
        refine D.k hf rfl fun a hf => ?_
        refine D.k hf rfl fun a hf => ?_
        refine D.p hf (.bool true) rfl rfl fun a hf => ?_
        refine D.p hf (.bool true) rfl rfl fun a hf => ?_
        refine D.k hf rfl fun a hf => ?_
        refine D.k hf rfl fun a hf => ?_
        refine D.k hf rfl fun a hf => ?_
        refine D.p hf (.bool true) rfl rfl fun a hf => ?_
        refine D.done (fun w hs => ?_)
        refine X.then_ ?_
        exact ⟨true, h, ((((((((((((hf.nil.cons (hf.get 85 _ rfl)).cons (hf.get 33 _ rfl)).cons (hf.get 32 _ rfl)).cons (hf.get 31 _ rfl)).cons (hf.get 16 _ rfl)).cons (hf.get 15 _ rfl)).cons (hf.get 14 _ rfl)).cons (hf.get 12 _ rfl)).cons (hf.get 11 _ rfl)).cons (hf.get 3 _ rfl)).cons (hf.get 1 _ rfl)).cons (hf.get 0 _ rfl)), hs⟩
       ·replace h := h.2 hc
        refine D.p hf (.slice lA l.length lC) rfl rfl fun a hf => ?_
        refine D.p hf (.slice l2A l2.length l2C) rfl rfl fun a hf => ?_
        refine D.p hf (iv (l2.length : Int)) rfl rfl fun a hf => ?_
        refine D.p hf (iv (w64 ((l2.length : Int) - 1))) rfl rfl fun a hf => ?_
        refine D.v hf (elemPtr l2A ((w64 ((l2.length : Int) - 1)).toNat * 1)) rfl (V.index rfl rfl rfl Tryd.runUnderlying61 Tryd.sizeOf48 (hs.rowsSome 0 rfl hx4) h0x4 (lt_of_get hx4) rfl) fun a hf => ?_
        refine D.v hf (.slice B2 x4.length D2) rfl (V.loadRows (off := 0) 0 rfl hx4 hrB2 rfl rfl rfl Tryd.isAgg48 Tryd.sizeOf48 rfl rfl) fun a hf => ?_
        obtain ⟨h0x5, x5, hx5, h⟩ := h
        refine D.v hf (elemPtr B2 (0 * 1)) rfl (V.index rfl rfl rfl Tryd.runUnderlying48 Tryd.sizeOf3 ((hs.rowView 0 rfl hx4 hrB2).some_ (lt_of_get hx5)) h0x5 (lt_of_get hx5) rfl) fun a hf => ?_
        refine D.v hf (iv x5) rfl (V.loadRowEl (off := 0) 0 rfl hx4 hrB2 hx5 rfl rfl rfl Tryd.isAgg3 Tryd.sizeOf3 rfl rfl) fun a hf => ?_
        obtain ⟨h0x6, x6, hx6, h⟩ := h
        refine D.v hf (elemPtr lA (x5.toNat * 6)) rfl (V.index rfl rfl rfl Tryd.runUnderlying23 Tryd.sizeOf28 (hv_l.some_ (lt_of_get hx6)) h0x6 (lt_of_get hx6) rfl) fun a hf => ?_
        refine D.v hf (elemPtr lA (x5.toNat * 6 + 5)) rfl (V.fieldEl rfl rfl (hv_l.some_ (lt_of_get hx6)) Tryd.runUnderlying28 rfl Tryd.sizeOf4 rfl rfl) fun a hf => ?_
        refine D.v hf (.bool x6.Below) rfl (V.loadEl (off := 5) (Ag.args _ _ _) (hv_l.flat hx6) rfl rfl rfl Tryd.isAgg4 Tryd.sizeOf4 rfl rfl) fun a hf => ?_
        refine D.p hf (.slice lA l.length lC) rfl rfl fun a hf => ?_
        refine D.p hf (iv xk1) rfl rfl fun a hf => ?_
        refine D.v hf (elemPtr lA (xk1.toNat * 6)) rfl (V.index rfl rfl rfl Tryd.runUnderlying23 Tryd.sizeOf28 (hv_l.some_ (lt_of_get hx1)) h0x1 (lt_of_get hx1) rfl) fun a hf => ?_
        refine D.v hf (elemPtr lA (xk1.toNat * 6 + 5)) rfl (V.fieldEl rfl rfl (hv_l.some_ (lt_of_get hx1)) Tryd.runUnderlying28 rfl Tryd.sizeOf4 rfl rfl) fun a hf => ?_
        refine D.v hf (.bool x1.Below) rfl (V.loadEl (off := 5) (Ag.args _ _ _) (hv_l.flat hx1) rfl rfl rfl Tryd.isAgg4 Tryd.sizeOf4 rfl rfl) fun a hf => ?_
        refine D.v hf (.bool (!(x6.Below == x1.Below))) rfl (V.boolEq rfl rfl rfl Tryd.underlying4 rfl) fun a hf => ?_
        refine D.p hf (.bool (!(x6.Below == x1.Below))) rfl rfl fun a hf => ?_
        refine D.split hf (b := !(x6.Below == x1.Below)) rfl rfl rfl (V.pure rfl) (fun hc a hf => ?_) (fun hc a hf => ?_)
        ·replace h := h.1 hc
         refine D.k hf rfl fun a hf => ?_
         refine D.k hf rfl fun a hf => ?_
         refine D.k hf rfl fun a hf => ?_
         refine D.p hf (.bool true) rfl rfl fun a hf => ?_
         refine D.done (fun w hs => ?_)
         refine X.then_ ?_
         exact ⟨true, h, ((((((((((((hf.nil.cons (hf.get 85 _ rfl)).cons (hf.get 33 _ rfl)).cons (hf.get 32 _ rfl)).cons (hf.get 31 _ rfl)).cons (hf.get 16 _ rfl)).cons (hf.get 15 _ rfl)).cons (hf.get 14 _ rfl)).cons (hf.get 12 _ rfl)).cons (hf.get 11 _ rfl)).cons (hf.get 3 _ rfl)).cons (hf.get 1 _ rfl)).cons (hf.get 0 _ rfl)), hs⟩
        ·replace h := h.2 hc
         refine D.p hf (iv x2.Tall) rfl rfl fun a hf => ?_
         refine D.p hf (iv n2) rfl rfl fun a hf => ?_
         refine D.p hf (.bool (decide (x2.Tall < n2))) rfl rfl fun a hf => ?_
         refine D.p hf (.bool (decide (x2.Tall < n2))) rfl rfl fun a hf => ?_
         refine D.done (fun w hs => ?_)
         refine X.then_ ?_
         exact ⟨(decide (x2.Tall < n2)), h, ((((((((((((hf.nil.cons (hf.get 85 _ rfl)).cons (hf.get 33 _ rfl)).cons (hf.get 32 _ rfl)).cons (hf.get 31 _ rfl)).cons (hf.get 16 _ rfl)).cons (hf.get 15 _ rfl)).cons (hf.get 14 _ rfl)).cons (hf.get 12 _ rfl)).cons (hf.get 11 _ rfl)).cons (hf.get 3 _ rfl)).cons (hf.get 1 _ rfl)).cons (hf.get 0 _ rfl)), hs⟩
set_option linter.unusedVariables false
def M_ref10_Nozzles_k4 (k3 : Nat) (l6 : List Str) (next3 : List Str → Int → Prop) (x2 : Body) (n5 : Int) : Prop :=
  idx l6 (k3 : Int) fun x3 => next3 (l6.set k3 x2.Nozzle) n5
def M_ref10_Nozzles_k5 (k3 : Nat) (l6 : List Str) (n4 : Int) (next3 : List Str → Int → Prop) (x2 : Body) (c1 : Bool) : Prop :=
  cnd c1 (M_ref10_Nozzles_k4 k3 l6 next3 x2 (w64 (n4 + 1))) (M_ref10_Nozzles_k4 k3 l6 next3 x2 n4)
def M_ref10_Nozzles_L3 (b : (List Body)) (l : (List Place)) (k3 : Nat) (xk3 : Int) (l6 : List Str) (n4 : Int) (next3 : List Str → Int → Prop) : Prop :=
  idx l xk3 fun x1 => M_ref10_bodyOf b x1.Typ fun y3 => idx b y3 fun x2 => idx l6 (k3 : Int) fun x4 => cnd (!(x4 == [])) (M_ref10_Nozzles_k5 k3 l6 n4 next3 x2 (!(x4 == x2.Nozzle))) (M_ref10_Nozzles_k5 k3 l6 n4 next3 x2 false)
def M_ref10_Nozzles_L2 (b : (List Body)) (l : (List Place)) (k2 : Nat) (xk2 : (List Int)) (l4 : List Str) (n2 : Int) (next2 : List Str → Int → Prop) : Prop :=
  forIn' (fun k x (s : List Str × Int) next => M_ref10_Nozzles_L3 b l k x s.1 s.2 (fun l6 n4 => next (l6, n4))) (fun (s : List Str × Int) => (fun (l6 : List Str) (n4 : Int) => next2 l6 n4) s.1 s.2) xk2 0 (l4, n2)
def M_ref10_Nozzles_k6 (Q : Int → Int → Prop) (xk1 : (List Int)) (l2 : List Int) (next1 : List Int → Prop) (c2 : Bool) : Prop :=
  cnd c2 (Q 0 3) (next1 (l2 ++ xk1))
def M_ref10_Nozzles_L1 (Q : Int → Int → Prop) (k1 : Nat) (xk1 : (List Int)) (l2 : List Int) (next1 : List Int → Prop) : Prop :=
  must (room (l2 ++ xk1).length 8) (cnd ((xk1.length : Int) == 0) (M_ref10_Nozzles_k6 Q xk1 l2 next1 true) (M_ref10_Nozzles_k6 Q xk1 l2 next1 (decide ((xk1.length : Int) > 20))))
def M_ref10_Nozzles (b : (List Body)) (l : (List Place)) (rounds : (List (List Int))) (Q : Int → Int → Prop) : Prop :=
  M_ref10_CheckPlaces b l fun y1 => cnd (y1 != 0) (Q 0 y1) (forIn' (fun k x (s : List Int) next => M_ref10_Nozzles_L1 Q k x s (fun l2 => next l2)) (fun (s : List Int) => (fun (l2 : List Int) => M_ref10_IsOrder l2 (l.length : Int) fun y2 => cnd (!y2) (Q 0 3) (must (0 ≤ (20 : Int) ∧ (20 : Int) * 16 ≤ 281474976710656) (forIn' (fun k x (s : List Str × Int) next => M_ref10_Nozzles_L2 b l k x s.1 s.2 (fun l4 n2 => next (l4, n2))) (fun (s : List Str × Int) => (fun (l4 : List Str) (n2 : Int) => Q n2 0) s.1 s.2) rounds 0 ((List.replicate 20 []), 0)))) s) rounds 0 ([] : List Int))
set_option maxHeartbeats 1000000 in
theorem R_ref10_Nozzles (b : (List Body)) (l : (List Place)) (rounds : (List (List Int))) (w0 : World) (bA : Option Addr) (bC : Nat) (hv_b : View w0 (old w0 none_) bA bC b) (lA : Option Addr) (lC : Nat) (hv_l : View w0 (old w0 none_) lA lC l) (roundsA : Option Addr) (roundsC : Nat) (hv_rounds : View w0 (old w0 none_) roundsA roundsC rounds) (Q : Int → Int → Prop) (h : M_ref10_Nozzles b l rounds Q) :
  Ret Tryd.prog 41 #[.slice bA b.length bC, .slice lA l.length lC, .slice roundsA rounds.length roundsC] w0 fun v w' => ∃ (r0 : Int) (r1 : Int), v = .tuple #[iv r0, iv r1] ∧ Q r0 r1 ∧ Sat w0 none_ [] w' := by
 refine fn_enter Tryd.func41 rfl Tryd.ntmps41 rfl (fs := [(0, .slice bA b.length bC), (1, .slice lA l.length lC), (2, .slice roundsA rounds.length roundsC)]) rfl (fun a hf => ?_)
 have hs := Sat.start w0 none_
 unfold M_ref10_Nozzles at h
 refine wp_seq (R.list ?_)
 refine S.p hf hs (iv 0) rfl rfl fun a hf => ?_
 refine S.p hf hs (iv 0) rfl rfl fun a hf => ?_
 refine R.nil (X.then_ (wp_seq (wp_seq (R.list ?_))))
 refine S.p hf hs (.slice bA b.length bC) rfl rfl fun a hf => ?_
 refine S.p hf hs (.slice lA l.length lC) rfl rfl fun a hf => ?_
 refine S.call hf rfl rfl rfl (call_fn (vs := [.slice bA b.length bC, .slice lA l.length lC]) rfl rfl rfl Tryd.call36) (R_ref10_CheckPlaces b l _ bA bC ((Ag.args _ _ _).view hv_b hs) lA lC ((Ag.args _ _ _).view hv_l hs) _ h) (fun v a w' hf hr => ?_)
 obtain ⟨y1, rfl, h2, hs2⟩ := hr
 replace h := h2; replace hs := hs.call hs2; clear h2 hs2
 refine S.p hf hs (iv y1) rfl rfl fun a hf => ?_
 refine R.nil (X.then_ (wp_seq (R.list ?_)))
 refine S.p hf hs (iv y1) rfl rfl fun a hf => ?_
 refine S.p hf hs (.bool (y1 != 0)) rfl rfl fun a hf => ?_
 refine R.nil (X.then_ ?_)
 refine C.cond hf (b := y1 != 0) rfl (fun hc => ?_) (fun hc => ?_)
 ·replace h := h.1 hc
  refine wp_seq (R.list ?_)
  refine S.p hf hs (iv y1) rfl rfl fun a hf => ?_
  refine S.p hf hs (iv 0) rfl rfl fun a hf => ?_
  refine S.p hf hs (iv y1) rfl rfl fun a hf => ?_
  refine R.nil (X.then_ (wp_ret (X.then_ret ?_)))
  exact L.ret hf (run_results2 Tryd.results41 (ResIs.tmp hf rfl) (ResIs.tmp hf rfl)) ⟨0, y1, rfl, h, hs.nil⟩
 ·replace h := h.2 hc
  refine wp_skip (X.then_ (wp_seq (R.list ?_)))
  refine S.p hf hs (.slice none 0 0) rfl rfl fun a hf => ?_
  refine R.nil (X.then_ (wp_seq (wp_seq (R.list ?_))))
  refine S.p hf hs (.slice roundsA rounds.length roundsC) rfl rfl fun a hf => ?_
  refine S.v hf hs (iv (rounds.length : Int)) rfl (V.len rfl rfl Tryd.runUnderlying61) fun a hf => ?_
  refine S.p hf hs (iv 0) rfl rfl fun a hf => ?_
  refine R.nil (X.then_ (wp_block ?_))
  replace hs := hs.nilOwn (α := Int) 3
  have hlenk1 := hv_rounds.len64
  refine C.range (fun (ll : List (List Int)) a w => ∃ (k1 : Nat) (l2 : List Int) (l2A : Option Addr) (l2C : Nat), rounds.drop k1 = ll ∧ k1 + ll.length = rounds.length ∧ forIn' (fun k x (s : List Int) next => M_ref10_Nozzles_L1 Q k x s (fun l2 => next l2)) (fun (s : List Int) => (fun (l2 : List Int) => M_ref10_IsOrder l2 (l.length : Int) fun y2 => cnd (!y2) (Q 0 3) (must (0 ≤ (20 : Int) ∧ (20 : Int) * 16 ≤ 281474976710656) (forIn' (fun k x (s : List Str × Int) next => M_ref10_Nozzles_L2 b l k x s.1 s.2 (fun l4 n2 => next (l4, n2))) (fun (s : List Str × Int) => (fun (l4 : List Str) (n2 : Int) => Q n2 0) s.1 s.2) rounds 0 ((List.replicate 20 []), 0)))) s) ll k1 l2 ∧ FrOk 95 [(27, iv (k1 : Int)), (0, .slice bA b.length bC), (1, .slice lA l.length lC), (2, .slice roundsA rounds.length roundsC), (9, .slice l2A l2.length l2C), (25, .slice roundsA rounds.length roundsC), (26, iv (rounds.length : Int))] a ∧ Sat w0 none_ [hown 3 l2A l2C l2] w) rounds ⟨0, ([] : List Int), none, 0, rfl, Nat.zero_add _, h, (((((((hf.nil.cons (hf.get 26 _ rfl)).cons (hf.get 25 _ rfl)).cons (hf.get 9 _ rfl)).cons (hf.get 2 _ rfl)).cons (hf.get 1 _ rfl)).cons (hf.get 0 _ rfl)).cons (hf.get 27 _ rfl)), hs⟩ ?_
  clear h hf hs
  rintro llk1 a w ⟨k1, l2, l2A, l2C, hlk1, hkk1, h, hf, hs⟩
  cases llk1 with
  | nil =>
   have hc := range_done hkk1
   replace h : (fun (l2 : List Int) => M_ref10_IsOrder l2 (l.length : Int) fun y2 => cnd (!y2) (Q 0 3) (must (0 ≤ (20 : Int) ∧ (20 : Int) * 16 ≤ 281474976710656) (forIn' (fun k x (s : List Str × Int) next => M_ref10_Nozzles_L2 b l k x s.1 s.2 (fun l4 n2 => next (l4, n2))) (fun (s : List Str × Int) => (fun (l4 : List Str) (n2 : Int) => Q n2 0) s.1 s.2) rounds 0 ((List.replicate 20 []), 0)))) l2 := h
   refine wp_seq (R.list ?_)
   refine S.v hf hs (.bool false) rfl (V.cmp false rfl rfl rfl rfl hc) fun a hf => ?_
   refine R.nil (X.then_ (wp_seq ?_))
   refine C.no hf rfl ?_
   refine wp_exit (X.then_exit (X.then_exit (X.blk_exit (X.then_ (wp_seq (wp_seq (R.list ?_)))))))
   refine S.p hf hs (.slice l2A l2.length l2C) rfl rfl fun a hf => ?_
   refine S.p hf hs (.slice lA l.length lC) rfl rfl fun a hf => ?_
   refine S.v hf hs (iv (l.length : Int)) rfl (V.len rfl rfl Tryd.runUnderlying23) fun a hf => ?_
   refine S.call hf rfl rfl rfl (call_fn (vs := [.slice l2A l2.length l2C, iv (l.length : Int)]) rfl rfl rfl Tryd.call25) (R_ref10_IsOrder l2 (l.length : Int) _ l2A l2C (hs.ownView 0 rfl) _ h) (fun v a w' hf hr => ?_)
   obtain ⟨y2, rfl, h2, hs2⟩ := hr
   replace h := h2; replace hs := hs.call hs2; clear h2 hs2
   refine S.p hf hs (.bool (!y2)) rfl rfl fun a hf => ?_
   refine R.nil (X.then_ ?_)
   refine C.cond hf (b := !y2) rfl (fun hc => ?_) (fun hc => ?_)
   ·replace h := h.1 hc
    refine wp_seq (R.list ?_)
    refine S.p hf hs (iv 0) rfl rfl fun a hf => ?_
    refine S.p hf hs (iv 3) rfl rfl fun a hf => ?_
    refine R.nil (X.then_ (wp_ret (X.then_ret ?_)))
    exact L.ret hf (run_results2 Tryd.results41 (ResIs.tmp hf rfl) (ResIs.tmp hf rfl)) ⟨0, 3, rfl, h, hs.nil⟩
   ·replace h := h.2 hc
    refine wp_skip (X.then_ (wp_seq (R.list ?_)))
    obtain ⟨hmk, h⟩ := h
    refine S.make hf hs rfl rfl rfl (α := Str) [] (z := 20) (N := 20) rfl rfl rfl Tryd.underlying116 info9 hmk rfl (by have := hmk.2; omega) (fun A1 a w hf hs => ?_)
    refine S.p hf hs (.slice A1 (List.replicate 20 []).length 20) rfl rfl fun a hf => ?_
    refine R.nil (X.then_ (wp_seq (R.list ?_)))
    refine S.p hf hs (iv 0) rfl rfl fun a hf => ?_
    refine R.nil (X.then_ (wp_seq (wp_seq (R.list ?_))))
    refine S.p hf hs (.slice roundsA rounds.length roundsC) rfl rfl fun a hf => ?_
    refine S.v hf hs (iv (rounds.length : Int)) rfl (V.len rfl rfl Tryd.runUnderlying61) fun a hf => ?_
    refine S.p hf hs (iv 0) rfl rfl fun a hf => ?_
    refine R.nil (X.then_ (wp_block ?_))
    have hlenk2 := hv_rounds.len64
    refine C.range (fun (ll : List (List Int)) a w => ∃ (k2 : Nat) (l4 : List Str) (l4A : Option Addr) (l4C : Nat) (n2 : Int), rounds.drop k2 = ll ∧ k2 + ll.length = rounds.length ∧ forIn' (fun k x (s : List Str × Int) next => M_ref10_Nozzles_L2 b l k x s.1 s.2 (fun l4 n2 => next (l4, n2))) (fun (s : List Str × Int) => (fun (l4 : List Str) (n2 : Int) => Q n2 0) s.1 s.2) ll k2 (l4, n2) ∧ FrOk 95 [(51, iv (k2 : Int)), (0, .slice bA b.length bC), (1, .slice lA l.length lC), (12, .slice l4A l4.length l4C), (13, iv n2), (49, .slice roundsA rounds.length roundsC), (50, iv (rounds.length : Int))] a ∧ Sat w0 none_ [hown 9 l4A l4C l4, hown 3 l2A l2C l2] w) rounds ⟨0, (List.replicate 20 []), A1, 20, 0, rfl, Nat.zero_add _, h, (((((((hf.nil.cons (hf.get 50 _ rfl)).cons (hf.get 49 _ rfl)).cons (hf.get 13 _ rfl)).cons (hf.get 12 _ rfl)).cons (hf.get 1 _ rfl)).cons (hf.get 0 _ rfl)).cons (hf.get 51 _ rfl)), hs⟩ ?_
    clear h hf hs
    rintro llk2 a w ⟨k2, l4, l4A, l4C, n2, hlk2, hkk2, h, hf, hs⟩
    cases llk2 with
    | nil =>
     have hc := range_done hkk2
     replace h : (fun (l4 : List Str) (n2 : Int) => Q n2 0) l4 n2 := h
     refine wp_seq (R.list ?_)
     refine S.v hf hs (.bool false) rfl (V.cmp false rfl rfl rfl rfl hc) fun a hf => ?_
     refine R.nil (X.then_ (wp_seq ?_))
     refine C.no hf rfl ?_
     refine wp_exit (X.then_exit (X.then_exit (X.blk_exit (X.then_ (wp_seq (R.list ?_))))))
     refine S.p hf hs (iv n2) rfl rfl fun a hf => ?_
     refine S.p hf hs (iv n2) rfl rfl fun a hf => ?_
     refine S.p hf hs (iv 0) rfl rfl fun a hf => ?_
     refine R.nil (X.then_ (wp_ret ?_))
     exact L.ret hf (run_results2 Tryd.results41 (ResIs.tmp hf rfl) (ResIs.tmp hf rfl)) ⟨n2, 0, rfl, h, hs.nil⟩
    | cons xk2 llk2 =>
     have hltk2 := range_lt hkk2; have hc := range_go hkk2; have hxk2 := range_get hlk2
     obtain ⟨next2, hnext2⟩ : ∃ X : List Str → Int → Prop, X = (fun l4 n2 => forIn' (fun k x (s : List Str × Int) next => M_ref10_Nozzles_L2 b l k x s.1 s.2 (fun l4 n2 => next (l4, n2))) (fun (s : List Str × Int) => (fun (l4 : List Str) (n2 : Int) => Q n2 0) s.1 s.2) llk2 (k2 + 1) (l4, n2)) := ⟨_, rfl⟩
     replace h : M_ref10_Nozzles_L2 b l k2 xk2 l4 n2 next2 := by rw [hnext2]; exact h
     unfold M_ref10_Nozzles_L2 at h
     refine wp_seq (R.list ?_)
     refine S.v hf hs (.bool true) rfl (V.cmp true rfl rfl rfl rfl hc) fun a hf => ?_
     refine R.nil (X.then_ (wp_seq ?_))
     refine C.yes hf rfl ?_
     refine wp_skip (X.then_ (wp_seq (wp_block (wp_seq (R.list ?_)))))
     obtain ⟨cs1, he1, hr1⟩ := hv_rounds.at_ _ _ hxk2
     obtain ⟨u1A, u1C, rfl, hvu1⟩ := hr1
     refine S.v hf hs (elemPtr roundsA (k2 * 1)) rfl (V.index rfl rfl rfl Tryd.runUnderlying61 Tryd.sizeOf48 (hv_rounds.some_ (lt_of_get hxk2)) (Int.natCast_nonneg _) (lt_of_get hxk2) rfl) fun a hf => ?_
     refine S.v hf hs (.slice u1A xk2.length u1C) rfl (V.loadEl (off := 0) (Ag.args _ _ _) he1 rfl rfl rfl Tryd.isAgg48 Tryd.sizeOf48 rfl rfl) fun a hf => ?_
     refine S.p hf hs (.slice u1A xk2.length u1C) rfl rfl fun a hf => ?_
     refine R.nil (X.then_ (wp_seq (R.list ?_)))
     refine S.p hf hs (.slice u1A xk2.length u1C) rfl rfl fun a hf => ?_
     refine S.v hf hs (iv (xk2.length : Int)) rfl (V.len rfl rfl Tryd.runUnderlying48) fun a hf => ?_
     refine S.p hf hs (iv 0) rfl rfl fun a hf => ?_
     refine R.nil (X.then_ (wp_block ?_))
     have hlenk3 := hvu1.len64
     refine C.range (fun (ll : List Int) a w => ∃ (k3 : Nat) (l6 : List Str) (l6A : Option Addr) (l6C : Nat) (n4 : Int), xk2.drop k3 = ll ∧ k3 + ll.length = xk2.length ∧ forIn' (fun k x (s : List Str × Int) next => M_ref10_Nozzles_L3 b l k x s.1 s.2 (fun l6 n4 => next (l6, n4))) (fun (s : List Str × Int) => (fun (l6 : List Str) (n4 : Int) => next2 l6 n4) s.1 s.2) ll k3 (l6, n4) ∧ FrOk 95 [(57, iv (k3 : Int)), (0, .slice bA b.length bC), (1, .slice lA l.length lC), (12, .slice l6A l6.length l6C), (13, iv n4), (49, .slice roundsA rounds.length roundsC), (50, iv (rounds.length : Int)), (51, iv (k2 : Int)), (55, .slice u1A xk2.length u1C), (56, iv (xk2.length : Int))] a ∧ Sat w0 none_ [hown 9 l6A l6C l6, hown 3 l2A l2C l2] w) xk2 ⟨0, l4, l4A, l4C, n2, rfl, Nat.zero_add _, h, ((((((((((hf.nil.cons (hf.get 56 _ rfl)).cons (hf.get 55 _ rfl)).cons (hf.get 51 _ rfl)).cons (hf.get 50 _ rfl)).cons (hf.get 49 _ rfl)).cons (hf.get 13 _ rfl)).cons (hf.get 12 _ rfl)).cons (hf.get 1 _ rfl)).cons (hf.get 0 _ rfl)).cons (hf.get 57 _ rfl)), hs⟩ ?_
     clear h hf hs
     rintro llk3 a w ⟨k3, l6, l6A, l6C, n4, hlk3, hkk3, h, hf, hs⟩
     cases llk3 with
     | nil =>
      have hc := range_done hkk3
      replace h : (fun (l6 : List Str) (n4 : Int) => next2 l6 n4) l6 n4 := h
      refine wp_seq (R.list ?_)
      refine S.v hf hs (.bool false) rfl (V.cmp false rfl rfl rfl rfl hc) fun a hf => ?_
      refine R.nil (X.then_ (wp_seq ?_))
      refine C.no hf rfl ?_
      refine wp_exit (X.then_exit (X.then_exit (X.blk_exit (X.blk (X.then_ (R.list ?_))))))
      refine S.v hf hs (iv ((k2 + 1 : Nat) : Int)) rfl (V.incr rfl rfl rfl hltk2 hlenk2) fun a hf => ?_
      refine S.p hf hs (iv ((k2 + 1 : Nat) : Int)) rfl rfl fun a hf => ?_
      refine R.nil (X.then_ ?_)
      exact ⟨xk2, llk2, rfl, k2 + 1, l6, l6A, l6C, n4, range_drop hlk2, range_len hkk2, (by rw [hnext2] at h; exact h), (((((((hf.nil.cons (hf.get 50 _ rfl)).cons (hf.get 49 _ rfl)).cons (hf.get 13 _ rfl)).cons (hf.get 12 _ rfl)).cons (hf.get 1 _ rfl)).cons (hf.get 0 _ rfl)).cons (hf.get 51 _ rfl)), hs⟩
     | cons xk3 llk3 =>
      have hltk3 := range_lt hkk3; have hc := range_go hkk3; have hxk3 := range_get hlk3
      obtain ⟨next3, hnext3⟩ : ∃ X : List Str → Int → Prop, X = (fun l6 n4 => forIn' (fun k x (s : List Str × Int) next => M_ref10_Nozzles_L3 b l k x s.1 s.2 (fun l6 n4 => next (l6, n4))) (fun (s : List Str × Int) => (fun (l6 : List Str) (n4 : Int) => next2 l6 n4) s.1 s.2) llk3 (k3 + 1) (l6, n4)) := ⟨_, rfl⟩
      replace h : M_ref10_Nozzles_L3 b l k3 xk3 l6 n4 next3 := by rw [hnext3]; exact h
      unfold M_ref10_Nozzles_L3 at h
      refine wp_seq (R.list ?_)
      refine S.v hf hs (.bool true) rfl (V.cmp true rfl rfl rfl rfl hc) fun a hf => ?_
      refine R.nil (X.then_ (wp_seq ?_))
      refine C.yes hf rfl ?_
      refine wp_skip (X.then_ (wp_seq (wp_block (wp_seq (R.list ?_)))))
      refine S.p hf hs (iv (k3 : Int)) rfl rfl fun a hf => ?_
      refine S.v hf hs (elemPtr u1A (k3 * 1)) rfl (V.index rfl rfl rfl Tryd.runUnderlying48 Tryd.sizeOf3 (hvu1.some_ (lt_of_get hxk3)) (Int.natCast_nonneg _) (lt_of_get hxk3) rfl) fun a hf => ?_
      refine S.v hf hs (iv xk3) rfl (V.loadEl (off := 0) (Ag.args _ _ _) (hvu1.flat hxk3) rfl rfl rfl Tryd.isAgg3 Tryd.sizeOf3 rfl rfl) fun a hf => ?_
      refine S.p hf hs (iv (k3 : Int)) rfl rfl fun a hf => ?_
      refine S.p hf hs (iv xk3) rfl rfl fun a hf => ?_
      refine R.nil (X.then_ (wp_seq (R.list ?_)))
      refine S.p hf hs (.slice bA b.length bC) rfl rfl fun a hf => ?_
      refine S.p hf hs (.slice bA b.length bC) rfl rfl fun a hf => ?_
      refine S.p hf hs (.slice lA l.length lC) rfl rfl fun a hf => ?_
      refine S.p hf hs (iv xk3) rfl rfl fun a hf => ?_
      obtain ⟨h0x1, x1, hx1, h⟩ := h
      refine S.v hf hs (elemPtr lA (xk3.toNat * 6)) rfl (V.index rfl rfl rfl Tryd.runUnderlying23 Tryd.sizeOf28 (hv_l.some_ (lt_of_get hx1)) h0x1 (lt_of_get hx1) rfl) fun a hf => ?_
      refine S.v hf hs (elemPtr lA (xk3.toNat * 6 + 1)) rfl (V.fieldEl rfl rfl (hv_l.some_ (lt_of_get hx1)) Tryd.runUnderlying28 rfl Tryd.sizeOf9 rfl rfl) fun a hf => ?_
      refine S.v hf hs (.string (ba x1.Typ)) rfl (V.loadEl (off := 1) (Ag.args _ _ _) (hv_l.flat hx1) rfl rfl rfl Tryd.isAgg9 Tryd.sizeOf9 rfl rfl) fun a hf => ?_
      refine S.call hf rfl rfl rfl (call_fn (vs := [.slice bA b.length bC, .string (ba x1.Typ)]) rfl rfl rfl Tryd.call66) (R_ref10_bodyOf b x1.Typ _ bA bC ((Ag.args _ _ _).view hv_b hs) _ h) (fun v a w' hf hr => ?_)
      obtain ⟨y3, rfl, h2, hs2⟩ := hr
      replace h := h2; replace hs := hs.call hs2; clear h2 hs2
      obtain ⟨h0x2, x2, hx2, h⟩ := h
      refine S.v hf hs (elemPtr bA (y3.toNat * 5)) rfl (V.index rfl rfl rfl Tryd.runUnderlying22 Tryd.sizeOf95 (hv_b.some_ (lt_of_get hx2)) h0x2 (lt_of_get hx2) rfl) fun a hf => ?_
      refine S.v hf hs (elemPtr bA (y3.toNat * 5 + 4)) rfl (V.fieldEl rfl rfl (hv_b.some_ (lt_of_get hx2)) Tryd.runUnderlying95 rfl Tryd.sizeOf9 rfl rfl) fun a hf => ?_
      refine S.v hf hs (.string (ba x2.Nozzle)) rfl (V.loadEl (off := 4) (Ag.args _ _ _) (hv_b.flat hx2) rfl rfl rfl Tryd.isAgg9 Tryd.sizeOf9 rfl rfl) fun a hf => ?_
      refine S.p hf hs (.string (ba x2.Nozzle)) rfl rfl fun a hf => ?_
      refine R.nil (X.then_ (wp_seq ?_))
      refine C.cut (J := fun a w => ∃ (n5 : Int), M_ref10_Nozzles_k4 k3 l6 next3 x2 n5 ∧ FrOk 95 [(0, .slice bA b.length bC), (1, .slice lA l.length lC), (12, .slice l6A l6.length l6C), (13, iv n5), (16, iv (k3 : Int)), (18, .string (ba x2.Nozzle)), (49, .slice roundsA rounds.length roundsC), (50, iv (rounds.length : Int)), (51, iv (k2 : Int)), (55, .slice u1A xk2.length u1C), (56, iv (xk2.length : Int)), (57, iv (k3 : Int))] a ∧ Sat w0 none_ [hown 9 l6A l6C l6, hown 3 l2A l2C l2] w) ?_ ?_
      ·rintro a w ⟨n5, h, hf, hs⟩
       unfold M_ref10_Nozzles_k4 at h
       refine R.list ?_
       refine S.p hf hs (.slice l6A l6.length l6C) rfl rfl fun a hf => ?_
       refine S.p hf hs (iv (k3 : Int)) rfl rfl fun a hf => ?_
       refine S.p hf hs (.string (ba x2.Nozzle)) rfl rfl fun a hf => ?_
       obtain ⟨h0x3, x3, hx3, h⟩ := h
       refine S.v hf hs (elemPtr l6A (k3 * 1)) rfl (V.index rfl rfl rfl Tryd.runUnderlying116 Tryd.sizeOf9 (hs.ownSome 0 rfl (lt_of_get hx3)) (Int.natCast_nonneg _) (lt_of_get hx3) rfl) fun a hf => ?_
       refine S.storeOwn (off := 0) 0 hf hs rfl rfl x2.Nozzle [.string (ba x2.Nozzle)] rfl hx3 rfl rfl rfl rfl rfl Tryd.sizeOf9 rfl (by decide) rfl rfl (fun a w hf hs => ?_)
       replace hf := hf.tell 12 (v := .slice l6A (l6.set k3 x2.Nozzle).length l6C) ((hf.get 12 (.slice l6A l6.length l6C) rfl).trans (congrArg (fun n => Value.slice l6A n l6C) List.length_set.symm))
       replace hf := hf.tell 88 (v := .slice l6A (l6.set k3 x2.Nozzle).length l6C) ((hf.get 88 (.slice l6A l6.length l6C) rfl).trans (congrArg (fun n => Value.slice l6A n l6C) List.length_set.symm))
       refine R.nil (X.blk (X.then_ (R.list ?_)))
       refine S.v hf hs (iv ((k3 + 1 : Nat) : Int)) rfl (V.incr rfl rfl rfl hltk3 hlenk3) fun a hf => ?_
       refine S.p hf hs (iv ((k3 + 1 : Nat) : Int)) rfl rfl fun a hf => ?_
       refine R.nil (X.then_ ?_)
       exact ⟨xk3, llk3, rfl, k3 + 1, (l6.set k3 x2.Nozzle), l6A, l6C, n5, range_drop hlk3, range_len hkk3, (by rw [hnext3] at h; exact h), ((((((((((hf.nil.cons (hf.get 56 _ rfl)).cons (hf.get 55 _ rfl)).cons (hf.get 51 _ rfl)).cons (hf.get 50 _ rfl)).cons (hf.get 49 _ rfl)).cons (hf.get 13 _ rfl)).cons (hf.get 12 _ rfl)).cons (hf.get 1 _ rfl)).cons (hf.get 0 _ rfl)).cons (hf.get 57 _ rfl)), hs⟩
      ·skip
       refine wp_seq ?_
       refine C.cut (J := fun a w => ∃ (c1 : Bool), M_ref10_Nozzles_k5 k3 l6 n4 next3 x2 c1 ∧ FrOk 95 [(0, .slice bA b.length bC), (1, .slice lA l.length lC), (12, .slice l6A l6.length l6C), (13, iv n4), (16, iv (k3 : Int)), (18, .string (ba x2.Nozzle)), (49, .slice roundsA rounds.length roundsC), (50, iv (rounds.length : Int)), (51, iv (k2 : Int)), (55, .slice u1A xk2.length u1C), (56, iv (xk2.length : Int)), (57, iv (k3 : Int)), (85, .bool c1)] a ∧ Sat w0 none_ [hown 9 l6A l6C l6, hown 3 l2A l2C l2] w) ?_ ?_
       ·rintro a w ⟨c1, h, hf, hs⟩
        unfold M_ref10_Nozzles_k5 at h
        refine C.cond hf (b := c1) rfl (fun hc => ?_) (fun hc => ?_)
        ·replace h := h.1 hc
         refine R.list ?_
         refine S.p hf hs (iv n4) rfl rfl fun a hf => ?_
         refine S.p hf hs (iv (w64 (n4 + 1))) rfl rfl fun a hf => ?_
         refine S.p hf hs (iv (w64 (n4 + 1))) rfl rfl fun a hf => ?_
         refine R.nil (X.then_ ?_)
         exact ⟨(w64 (n4 + 1)), h, ((((((((((((hf.nil.cons (hf.get 57 _ rfl)).cons (hf.get 56 _ rfl)).cons (hf.get 55 _ rfl)).cons (hf.get 51 _ rfl)).cons (hf.get 50 _ rfl)).cons (hf.get 49 _ rfl)).cons (hf.get 18 _ rfl)).cons (hf.get 16 _ rfl)).cons (hf.get 13 _ rfl)).cons (hf.get 12 _ rfl)).cons (hf.get 1 _ rfl)).cons (hf.get 0 _ rfl)), hs⟩
        ·replace h := h.2 hc
         refine wp_skip (X.then_ ?_)
         exact ⟨n4, h, ((((((((((((hf.nil.cons (hf.get 57 _ rfl)).cons (hf.get 56 _ rfl)).cons (hf.get 55 _ rfl)).cons (hf.get 51 _ rfl)).cons (hf.get 50 _ rfl)).cons (hf.get 49 _ rfl)).cons (hf.get 18 _ rfl)).cons (hf.get 16 _ rfl)).cons (hf.get 13 _ rfl)).cons (hf.get 12 _ rfl)).cons (hf.get 1 _ rfl)).cons (hf.get 0 _ rfl)), hs⟩
       ·skip
        refine R.list ?_
        refine S.p hf hs (.slice l6A l6.length l6C) rfl rfl fun a hf => ?_
        refine S.p hf hs (iv (k3 : Int)) rfl rfl fun a hf => ?_
        obtain ⟨h0x4, x4, hx4, h⟩ := h
        refine S.v hf hs (elemPtr l6A (k3 * 1)) rfl (V.index rfl rfl rfl Tryd.runUnderlying116 Tryd.sizeOf9 (hs.ownSome 0 rfl (lt_of_get hx4)) (Int.natCast_nonneg _) (lt_of_get hx4) rfl) fun a hf => ?_
        refine S.v hf hs (.string (ba x4)) rfl (V.loadOwn (off := 0) 0 rfl hx4 rfl rfl rfl Tryd.isAgg9 Tryd.sizeOf9 rfl rfl) fun a hf => ?_
        refine S.v hf hs (.bool (!(x4 == []))) rfl (V.strCmp (!(x4 == [])) rfl rfl rfl rfl) fun a hf => ?_
        refine S.split hf hs (b := !(x4 == [])) rfl rfl rfl (V.pure rfl) (fun hc a hf => ?_) (fun hc a hf => ?_)
        ·replace h := h.1 hc
         refine S.p hf hs (.slice l6A l6.length l6C) rfl rfl fun a hf => ?_
         refine S.p hf hs (iv (k3 : Int)) rfl rfl fun a hf => ?_
         refine S.v hf hs (elemPtr l6A (k3 * 1)) rfl (V.index rfl rfl rfl Tryd.runUnderlying116 Tryd.sizeOf9 (hs.ownSome 0 rfl (lt_of_get hx4)) (Int.natCast_nonneg _) (lt_of_get hx4) rfl) fun a hf => ?_
         refine S.v hf hs (.string (ba x4)) rfl (V.loadOwn (off := 0) 0 rfl hx4 rfl rfl rfl Tryd.isAgg9 Tryd.sizeOf9 rfl rfl) fun a hf => ?_
         refine S.p hf hs (.string (ba x2.Nozzle)) rfl rfl fun a hf => ?_
         refine S.v hf hs (.bool (!(x4 == x2.Nozzle))) rfl (V.strCmp (!(x4 == x2.Nozzle)) rfl rfl rfl rfl) fun a hf => ?_
         refine S.p hf hs (.bool (!(x4 == x2.Nozzle))) rfl rfl fun a hf => ?_
         refine R.nil (X.then_ ?_)
         exact ⟨(!(x4 == x2.Nozzle)), h, (((((((((((((hf.nil.cons (hf.get 85 _ rfl)).cons (hf.get 57 _ rfl)).cons (hf.get 56 _ rfl)).cons (hf.get 55 _ rfl)).cons (hf.get 51 _ rfl)).cons (hf.get 50 _ rfl)).cons (hf.get 49 _ rfl)).cons (hf.get 18 _ rfl)).cons (hf.get 16 _ rfl)).cons (hf.get 13 _ rfl)).cons (hf.get 12 _ rfl)).cons (hf.get 1 _ rfl)).cons (hf.get 0 _ rfl)), hs⟩
        ·replace h := h.2 hc
         refine S.k hf rfl fun a hf => ?_
         refine S.k hf rfl fun a hf => ?_
         refine S.k hf rfl fun a hf => ?_
         refine S.k hf rfl fun a hf => ?_
         refine S.k hf rfl fun a hf => ?_
         refine S.k hf rfl fun a hf => ?_
         refine S.p hf hs (.bool false) rfl rfl fun a hf => ?_
         refine R.nil (X.then_ ?_)
         exact ⟨false, h, (((((((((((((hf.nil.cons (hf.get 85 _ rfl)).cons (hf.get 57 _ rfl)).cons (hf.get 56 _ rfl)).cons (hf.get 55 _ rfl)).cons (hf.get 51 _ rfl)).cons (hf.get 50 _ rfl)).cons (hf.get 49 _ rfl)).cons (hf.get 18 _ rfl)).cons (hf.get 16 _ rfl)).cons (hf.get 13 _ rfl)).cons (hf.get 12 _ rfl)).cons (hf.get 1 _ rfl)).cons (hf.get 0 _ rfl)), hs⟩
  | cons xk1 llk1 =>
   have hltk1 := range_lt hkk1; have hc := range_go hkk1; have hxk1 := range_get hlk1
   obtain ⟨next1, hnext1⟩ : ∃ X : List Int → Prop, X = (fun l2 => forIn' (fun k x (s : List Int) next => M_ref10_Nozzles_L1 Q k x s (fun l2 => next l2)) (fun (s : List Int) => (fun (l2 : List Int) => M_ref10_IsOrder l2 (l.length : Int) fun y2 => cnd (!y2) (Q 0 3) (must (0 ≤ (20 : Int) ∧ (20 : Int) * 16 ≤ 281474976710656) (forIn' (fun k x (s : List Str × Int) next => M_ref10_Nozzles_L2 b l k x s.1 s.2 (fun l4 n2 => next (l4, n2))) (fun (s : List Str × Int) => (fun (l4 : List Str) (n2 : Int) => Q n2 0) s.1 s.2) rounds 0 ((List.replicate 20 []), 0)))) s) llk1 (k1 + 1) l2) := ⟨_, rfl⟩
   replace h : M_ref10_Nozzles_L1 Q k1 xk1 l2 next1 := by rw [hnext1]; exact h
   unfold M_ref10_Nozzles_L1 at h
   refine wp_seq (R.list ?_)
   refine S.v hf hs (.bool true) rfl (V.cmp true rfl rfl rfl rfl hc) fun a hf => ?_
   refine R.nil (X.then_ (wp_seq ?_))
   refine C.yes hf rfl ?_
   refine wp_skip (X.then_ (wp_seq (wp_block (wp_seq (R.list ?_)))))
   obtain ⟨cs2, he2, hr2⟩ := hv_rounds.at_ _ _ hxk1
   obtain ⟨u2A, u2C, rfl, hvu2⟩ := hr2
   refine S.v hf hs (elemPtr roundsA (k1 * 1)) rfl (V.index rfl rfl rfl Tryd.runUnderlying61 Tryd.sizeOf48 (hv_rounds.some_ (lt_of_get hxk1)) (Int.natCast_nonneg _) (lt_of_get hxk1) rfl) fun a hf => ?_
   refine S.v hf hs (.slice u2A xk1.length u2C) rfl (V.loadEl (off := 0) (Ag.args _ _ _) he2 rfl rfl rfl Tryd.isAgg48 Tryd.sizeOf48 rfl rfl) fun a hf => ?_
   refine S.p hf hs (.slice u2A xk1.length u2C) rfl rfl fun a hf => ?_
   refine R.nil (X.then_ (wp_seq (R.list ?_)))
   refine S.p hf hs (.slice l2A l2.length l2C) rfl rfl fun a hf => ?_
   refine S.p hf hs (.slice u2A xk1.length u2C) rfl rfl fun a hf => ?_
   obtain ⟨hroom, h⟩ := h
   refine S.appendAny 0 hf hs rfl rfl rfl rfl rfl rfl rfl Tryd.underlying48 info3 rfl hroom ((Ag.args _ _ _).view hvu2 hs) (fun A2 C1 a w hf hs => ?_)
   refine S.p hf hs (.slice A2 (l2 ++ xk1).length C1) rfl rfl fun a hf => ?_
   refine R.nil (X.then_ (wp_seq ?_))
   refine C.cut (J := fun a w => ∃ (c2 : Bool), M_ref10_Nozzles_k6 Q xk1 l2 next1 c2 ∧ FrOk 95 [(0, .slice bA b.length bC), (1, .slice lA l.length lC), (2, .slice roundsA rounds.length roundsC), (9, .slice A2 (l2 ++ xk1).length C1), (25, .slice roundsA rounds.length roundsC), (26, iv (rounds.length : Int)), (27, iv (k1 : Int)), (41, .bool c2)] a ∧ Sat w0 none_ [hown 3 A2 C1 (l2 ++ xk1)] w) ?_ ?_
   ·rintro a w ⟨c2, h, hf, hs⟩
    unfold M_ref10_Nozzles_k6 at h
    refine C.cond hf (b := c2) rfl (fun hc => ?_) (fun hc => ?_)
    ·replace h := h.1 hc
     refine wp_seq (R.list ?_)
     refine S.p hf hs (iv 0) rfl rfl fun a hf => ?_
     refine S.p hf hs (iv 3) rfl rfl fun a hf => ?_
     refine R.nil (X.then_ (wp_ret (X.blk_ret (X.then_ret (X.then_ret (X.blk_ret (X.then_ret ?_)))))))
     exact L.ret hf (run_results2 Tryd.results41 (ResIs.tmp hf rfl) (ResIs.tmp hf rfl)) ⟨0, 3, rfl, h, hs.nil⟩
    ·replace h := h.2 hc
     refine wp_skip (X.blk (X.then_ (R.list ?_)))
     refine S.v hf hs (iv ((k1 + 1 : Nat) : Int)) rfl (V.incr rfl rfl rfl hltk1 hlenk1) fun a hf => ?_
     refine S.p hf hs (iv ((k1 + 1 : Nat) : Int)) rfl rfl fun a hf => ?_
     refine R.nil (X.then_ ?_)
     exact ⟨xk1, llk1, rfl, k1 + 1, (l2 ++ xk1), A2, C1, range_drop hlk1, range_len hkk1, (by rw [hnext1] at h; exact h), (((((((hf.nil.cons (hf.get 26 _ rfl)).cons (hf.get 25 _ rfl)).cons (hf.get 9 _ rfl)).cons (hf.get 2 _ rfl)).cons (hf.get 1 _ rfl)).cons (hf.get 0 _ rfl)).cons (hf.get 27 _ rfl)), hs⟩
   ·skip
    refine R.list ?_
    refine S.p hf hs (.slice u2A xk1.length u2C) rfl rfl fun a hf => ?_
    refine S.v hf hs (iv (xk1.length : Int)) rfl (V.len rfl rfl Tryd.runUnderlying48) fun a hf => ?_
    refine S.p hf hs (.bool ((xk1.length : Int) == 0)) rfl rfl fun a hf => ?_
    refine S.split hf hs (b := (xk1.length : Int) == 0) rfl rfl rfl (V.pure rfl) (fun hc a hf => ?_) (fun hc a hf => ?_)
    ·replace h := h.1 hc
     refine S.k hf rfl fun a hf => ?_
     refine S.k hf rfl fun a hf => ?_
     refine S.k hf rfl fun a hf => ?_
     refine S.p hf hs (.bool true) rfl rfl fun a hf => ?_
     refine R.nil (X.then_ ?_)
     exact ⟨true, h, ((((((((hf.nil.cons (hf.get 41 _ rfl)).cons (hf.get 27 _ rfl)).cons (hf.get 26 _ rfl)).cons (hf.get 25 _ rfl)).cons (hf.get 9 _ rfl)).cons (hf.get 2 _ rfl)).cons (hf.get 1 _ rfl)).cons (hf.get 0 _ rfl)), hs⟩
    ·replace h := h.2 hc
     refine S.p hf hs (.slice u2A xk1.length u2C) rfl rfl fun a hf => ?_
     refine S.v hf hs (iv (xk1.length : Int)) rfl (V.len rfl rfl Tryd.runUnderlying48) fun a hf => ?_
     refine S.p hf hs (.bool (decide ((xk1.length : Int) > 20))) rfl rfl fun a hf => ?_
     refine S.p hf hs (.bool (decide ((xk1.length : Int) > 20))) rfl rfl fun a hf => ?_
     refine R.nil (X.then_ ?_)
     exact ⟨(decide ((xk1.length : Int) > 20)), h, ((((((((hf.nil.cons (hf.get 41 _ rfl)).cons (hf.get 27 _ rfl)).cons (hf.get 26 _ rfl)).cons (hf.get 25 _ rfl)).cons (hf.get 9 _ rfl)).cons (hf.get 2 _ rfl)).cons (hf.get 1 _ rfl)).cons (hf.get 0 _ rfl)), hs⟩
set_option linter.unusedVariables false
def M_ref10_SameRounds_L1 (b : (List (List Int))) (Q : Bool → Prop) (k1 : Nat) (xk1 : (List Int))  (next1 : Prop) : Prop :=
  idx b (k1 : Int) fun x1 => M_equal_int xk1 x1 fun y1 => cnd (!y1) (Q false) (next1)
def M_ref10_SameRounds (a_ : (List (List Int))) (b : (List (List Int))) (Q : Bool → Prop) : Prop :=
  cnd ((a_.length : Int) != (b.length : Int)) (Q false) (forIn' (fun k x (s : Unit) next => M_ref10_SameRounds_L1 b Q k x (next ())) (fun (s : Unit) => Q true) a_ 0 ())
set_option maxHeartbeats 1000000 in
theorem R_ref10_SameRounds (a_ : (List (List Int))) (b : (List (List Int))) (w0 : World) (a_A : Option Addr) (a_C : Nat) (hv_a_ : View w0 (old w0 none_) a_A a_C a_) (bA : Option Addr) (bC : Nat) (hv_b : View w0 (old w0 none_) bA bC b) (Q : Bool → Prop) (h : M_ref10_SameRounds a_ b Q) :
  Ret Tryd.prog 40 #[.slice a_A a_.length a_C, .slice bA b.length bC] w0 fun v w' => ∃ (r0 : Bool), v = .bool r0 ∧ Q r0 ∧ Sat w0 none_ [] w' := by
 refine fn_enter Tryd.func40 rfl Tryd.ntmps40 rfl (fs := [(0, .slice a_A a_.length a_C), (1, .slice bA b.length bC)]) rfl (fun a hf => ?_)
 have hs := Sat.start w0 none_
 unfold M_ref10_SameRounds at h
 refine wp_seq (R.list ?_)
 refine S.p hf hs (.bool false) rfl rfl fun a hf => ?_
 refine R.nil (X.then_ (wp_seq (wp_seq (R.list ?_))))
 refine S.p hf hs (.slice a_A a_.length a_C) rfl rfl fun a hf => ?_
 refine S.v hf hs (iv (a_.length : Int)) rfl (V.len rfl rfl Tryd.runUnderlying61) fun a hf => ?_
 refine S.p hf hs (.slice bA b.length bC) rfl rfl fun a hf => ?_
 refine S.v hf hs (iv (b.length : Int)) rfl (V.len rfl rfl Tryd.runUnderlying61) fun a hf => ?_
 refine S.p hf hs (.bool ((a_.length : Int) != (b.length : Int))) rfl rfl fun a hf => ?_
 refine R.nil (X.then_ ?_)
 refine C.cond hf (b := (a_.length : Int) != (b.length : Int)) rfl (fun hc => ?_) (fun hc => ?_)
 ·replace h := h.1 hc
  refine wp_seq (R.list ?_)
  refine S.p hf hs (.bool false) rfl rfl fun a hf => ?_
  refine R.nil (X.then_ (wp_ret (X.then_ret ?_)))
  exact L.ret hf (run_results1 Tryd.results40 (ResIs.tmp hf rfl)) ⟨false, rfl, h, hs.nil⟩
 ·replace h := h.2 hc
  refine wp_skip (X.then_ (wp_seq (wp_seq (R.list ?_))))
  refine S.p hf hs (.slice a_A a_.length a_C) rfl rfl fun a hf => ?_
  refine S.v hf hs (iv (a_.length : Int)) rfl (V.len rfl rfl Tryd.runUnderlying61) fun a hf => ?_
  refine S.p hf hs (iv 0) rfl rfl fun a hf => ?_
  refine R.nil (X.then_ (wp_block ?_))
  have hlenk1 := hv_a_.len64
  refine C.range (fun (ll : List (List Int)) a w => ∃ (k1 : Nat) , a_.drop k1 = ll ∧ k1 + ll.length = a_.length ∧ forIn' (fun k x (s : Unit) next => M_ref10_SameRounds_L1 b Q k x (next ())) (fun (s : Unit) => Q true) ll k1 () ∧ FrOk 27 [(13, iv (k1 : Int)), (0, .slice a_A a_.length a_C), (1, .slice bA b.length bC), (12, iv (a_.length : Int))] a ∧ Sat w0 none_ [] w) a_ ⟨0, rfl, Nat.zero_add _, h, ((((hf.nil.cons (hf.get 12 _ rfl)).cons (hf.get 1 _ rfl)).cons (hf.get 0 _ rfl)).cons (hf.get 13 _ rfl)), hs⟩ ?_
  clear h hf hs
  rintro llk1 a w ⟨k1, hlk1, hkk1, h, hf, hs⟩
  cases llk1 with
  | nil =>
   have hc := range_done hkk1
   replace h : Q true := h
   refine wp_seq (R.list ?_)
   refine S.v hf hs (.bool false) rfl (V.cmp false rfl rfl rfl rfl hc) fun a hf => ?_
   refine R.nil (X.then_ (wp_seq ?_))
   refine C.no hf rfl ?_
   refine wp_exit (X.then_exit (X.then_exit (X.blk_exit (X.then_ (wp_seq (R.list ?_))))))
   refine S.p hf hs (.bool true) rfl rfl fun a hf => ?_
   refine R.nil (X.then_ (wp_ret ?_))
   exact L.ret hf (run_results1 Tryd.results40 (ResIs.tmp hf rfl)) ⟨true, rfl, h, hs.nil⟩
  | cons xk1 llk1 =>
   have hltk1 := range_lt hkk1; have hc := range_go hkk1; have hxk1 := range_get hlk1
   obtain ⟨next1, hnext1⟩ : ∃ X : Prop, X = (forIn' (fun k x (s : Unit) next => M_ref10_SameRounds_L1 b Q k x (next ())) (fun (s : Unit) => Q true) llk1 (k1 + 1) ()) := ⟨_, rfl⟩
   replace h : M_ref10_SameRounds_L1 b Q k1 xk1  next1 := by rw [hnext1]; exact h
   unfold M_ref10_SameRounds_L1 at h
   refine wp_seq (R.list ?_)
   refine S.v hf hs (.bool true) rfl (V.cmp true rfl rfl rfl rfl hc) fun a hf => ?_
   refine R.nil (X.then_ (wp_seq ?_))
   refine C.yes hf rfl ?_
   refine wp_skip (X.then_ (wp_seq (wp_block (wp_seq (R.list ?_)))))
   refine S.p hf hs (iv (k1 : Int)) rfl rfl fun a hf => ?_
   refine S.p hf hs (iv (k1 : Int)) rfl rfl fun a hf => ?_
   refine R.nil (X.then_ (wp_seq ?_))
   refine H.start (S := Sat w0 none_ []) mo ?_
   replace hs := hs.drew
   refine H.v hf hs (.slice a_A a_.length a_C) 0 rfl rfl (by kernel_rfl) (V.pure rfl) fun a hf => ?_
   refine H.v hf hs (iv (k1 : Int)) 1 rfl rfl (by kernel_rfl) (V.pure rfl) fun a hf => ?_
   obtain ⟨cs1, he1, hr1⟩ := hv_a_.at_ _ _ hxk1
   obtain ⟨u1A, u1C, rfl, hvu1⟩ := hr1
   refine H.v hf hs (elemPtr a_A (k1 * 1)) 2 rfl rfl (by kernel_rfl) (V.index rfl rfl rfl Tryd.runUnderlying61 Tryd.sizeOf48 (hv_a_.some_ (lt_of_get hxk1)) (Int.natCast_nonneg _) (lt_of_get hxk1) rfl) fun a hf => ?_
   refine H.v hf hs (.slice u1A xk1.length u1C) 3 rfl rfl (by kernel_rfl) (V.loadEl (off := 0) (Ag.args _ _ _) he1 rfl rfl rfl Tryd.isAgg48 Tryd.sizeOf48 rfl rfl) fun a hf => ?_
   refine H.v hf hs (.slice bA b.length bC) 4 rfl rfl (by kernel_rfl) (V.pure rfl) fun a hf => ?_
   refine H.v hf hs (iv (k1 : Int)) 5 rfl rfl (by kernel_rfl) (V.pure rfl) fun a hf => ?_
   obtain ⟨h0x1, x1, hx1, h⟩ := h
   obtain ⟨cs2, he2, hr2⟩ := hv_b.at_ _ _ hx1
   obtain ⟨u2A, u2C, rfl, hvu2⟩ := hr2
   refine H.v hf hs (elemPtr bA (k1 * 1)) 6 rfl rfl (by kernel_rfl) (V.index rfl rfl rfl Tryd.runUnderlying61 Tryd.sizeOf48 (hv_b.some_ (lt_of_get hx1)) (Int.natCast_nonneg _) (lt_of_get hx1) rfl) fun a hf => ?_
   refine H.v hf hs (.slice u2A x1.length u2C) 7 rfl rfl (by kernel_rfl) (V.loadEl (off := 0) (Ag.args _ _ _) he2 rfl rfl rfl Tryd.isAgg48 Tryd.sizeOf48 rfl rfl) fun a hf => ?_
   refine H.one (i := 8) rfl (by kernel_rfl) ?_
   refine S.call hf rfl rfl rfl (call_fn (vs := [.slice u1A xk1.length u1C, .slice u2A x1.length u2C]) rfl rfl rfl Tryd.call29) (R_equal_int xk1 x1 _ u1A u1C ((Ag.args _ _ _).view hvu1 hs) u2A u2C ((Ag.args _ _ _).view hvu2 hs) _ h) (fun v a w' hf hr => ?_)
   obtain ⟨y1, rfl, h2, hs2⟩ := hr
   replace h := h2; replace hs := hs.call hs2; clear h2 hs2
   refine R.nil (X.then_ ?_)
   refine ⟨hs, ?_⟩
   refine H.v hf hs (.bool (!y1)) 9 rfl rfl (by kernel_rfl) (V.pure rfl) fun a hf => ?_
   refine H.done (by kernel_rfl) ?_
   refine X.then_ ?_
   refine C.cond hf (b := !y1) rfl (fun hc => ?_) (fun hc => ?_)
   ·replace h := h.1 hc
    refine wp_seq (R.list ?_)
    refine S.p hf hs (.bool false) rfl rfl fun a hf => ?_
    refine R.nil (X.then_ (wp_ret (X.blk_ret (X.then_ret (X.then_ret (X.blk_ret (X.then_ret ?_)))))))
    exact L.ret hf (run_results1 Tryd.results40 (ResIs.tmp hf rfl)) ⟨false, rfl, h, hs.nil⟩
   ·replace h := h.2 hc
    refine wp_skip (X.blk (X.then_ (R.list ?_)))
    refine S.v hf hs (iv ((k1 + 1 : Nat) : Int)) rfl (V.incr rfl rfl rfl hltk1 hlenk1) fun a hf => ?_
    refine S.p hf hs (iv ((k1 + 1 : Nat) : Int)) rfl rfl fun a hf => ?_
    refine R.nil (X.then_ ?_)
    exact ⟨xk1, llk1, rfl, k1 + 1, range_drop hlk1, range_len hkk1, (by rw [hnext1] at h; exact h), ((((hf.nil.cons (hf.get 12 _ rfl)).cons (hf.get 1 _ rfl)).cons (hf.get 0 _ rfl)).cons (hf.get 13 _ rfl)), hs⟩
set_option linter.unusedVariables false
def M_law_Orders_k2 (b : (List Body)) (l : (List Place)) (rounds : (List (List Int))) (Q : Bool → Prop) (c2 : Bool) : Prop :=
  cnd c2 (Q false) (M_mount_Nozzles b l rounds fun y9 y10 => M_ref10_Nozzles b l rounds fun y11 y12 => cnd (y10 == y12) (cnd (y9 == y11) (M_awake  fun y13 => Q y13) (Q false)) (Q false))
def M_law_Orders_k1 (b : (List Body)) (l : (List Place)) (order : (List Int)) (heads : Int) (rounds : (List (List Int))) (Q : Bool → Prop) (c1 : Bool) : Prop :=
  cnd c1 (Q false) (M_mount_Rounds b l order heads fun y5 y6 => M_ref10_Rounds b l order heads fun y7 y8 => cnd (y6 != y8) (M_law_Orders_k2 b l rounds Q true) (M_ref10_SameRounds y5 y7 fun y14 => M_law_Orders_k2 b l rounds Q (!y14)))
def M_law_Orders (b : (List Body)) (l : (List Place)) (order : (List Int)) (heads : Int) (rounds : (List (List Int))) (Q : Bool → Prop) : Prop :=
  M_mount_Ordered b l fun y1 y2 => M_ref10_Ordered b l fun y3 y4 => cnd (y2 != y4) (M_law_Orders_k1 b l order heads rounds Q true) (M_equal_int y1 y3 fun y15 => M_law_Orders_k1 b l order heads rounds Q (!y15))
set_option maxHeartbeats 1000000 in
theorem R_law_Orders (b : (List Body)) (l : (List Place)) (order : (List Int)) (heads : Int) (rounds : (List (List Int))) (w0 : World) (bA : Option Addr) (bC : Nat) (hv_b : View w0 (old w0 none_) bA bC b) (lA : Option Addr) (lC : Nat) (hv_l : View w0 (old w0 none_) lA lC l) (orderA : Option Addr) (orderC : Nat) (hv_order : View w0 (old w0 none_) orderA orderC order) (roundsA : Option Addr) (roundsC : Nat) (hv_rounds : View w0 (old w0 none_) roundsA roundsC rounds) (Q : Bool → Prop) (h : M_law_Orders b l order heads rounds Q) :
  Ret Tryd.prog 9 #[.slice bA b.length bC, .slice lA l.length lC, .slice orderA order.length orderC, iv heads, .slice roundsA rounds.length roundsC] w0 fun v w' => ∃ (r0 : Bool), v = .bool r0 ∧ Q r0 ∧ Sat w0 none_ [] w' := by
 refine fn_enter Tryd.func9 rfl Tryd.ntmps9 rfl (fs := [(0, .slice bA b.length bC), (1, .slice lA l.length lC), (2, .slice orderA order.length orderC), (3, iv heads), (4, .slice roundsA rounds.length roundsC)]) rfl (fun a hf => ?_)
 have hs := Sat.start w0 none_
 unfold M_law_Orders at h
 refine wp_seq (R.list ?_)
 refine S.p hf hs (.bool false) rfl rfl fun a hf => ?_
 refine R.nil (X.then_ (wp_seq (R.list ?_)))
 refine S.p hf hs (.slice bA b.length bC) rfl rfl fun a hf => ?_
 refine S.p hf hs (.slice lA l.length lC) rfl rfl fun a hf => ?_
 refine S.call hf rfl rfl rfl (call_fn (vs := [.slice bA b.length bC, .slice lA l.length lC]) rfl rfl rfl Tryd.call24) (R_mount_Ordered b l _ bA bC ((Ag.args _ _ _).view hv_b hs) lA lC ((Ag.args _ _ _).view hv_l hs) _ h) (fun v a w' hf hr => ?_)
 obtain ⟨y1, y1A, y1C, y2, rfl, h2, hs2⟩ := hr
 replace h := h2; replace hs := hs.call hs2; clear h2 hs2
 refine S.p hf hs (.tuple #[.slice y1A y1.length y1C, iv y2]) rfl rfl fun a hf => ?_
 refine S.p hf hs (.slice y1A y1.length y1C) rfl rfl fun a hf => ?_
 refine S.p hf hs (iv y2) rfl rfl fun a hf => ?_
 refine S.p hf hs (.slice y1A y1.length y1C) rfl rfl fun a hf => ?_
 refine S.p hf hs (iv y2) rfl rfl fun a hf => ?_
 refine R.nil (X.then_ (wp_seq (R.list ?_)))
 refine S.p hf hs (.slice bA b.length bC) rfl rfl fun a hf => ?_
 refine S.p hf hs (.slice lA l.length lC) rfl rfl fun a hf => ?_
 refine S.call hf rfl rfl rfl (call_fn (vs := [.slice bA b.length bC, .slice lA l.length lC]) rfl rfl rfl Tryd.call38) (R_ref10_Ordered b l _ bA bC ((Ag.args _ _ _).view hv_b hs) lA lC ((Ag.args _ _ _).view hv_l hs) _ h) (fun v a w' hf hr => ?_)
 obtain ⟨y3, y3A, y3C, y4, rfl, h2, hs2⟩ := hr
 replace h := h2; replace hs := hs.call hs2; clear h2 hs2
 refine S.p hf hs (.tuple #[.slice y3A y3.length y3C, iv y4]) rfl rfl fun a hf => ?_
 refine S.p hf hs (.slice y3A y3.length y3C) rfl rfl fun a hf => ?_
 refine S.p hf hs (iv y4) rfl rfl fun a hf => ?_
 refine S.p hf hs (.slice y3A y3.length y3C) rfl rfl fun a hf => ?_
 refine S.p hf hs (iv y4) rfl rfl fun a hf => ?_
 refine R.nil (X.then_ (wp_seq (wp_seq ?_)))
 refine C.cut (J := fun a w => ∃ (c1 : Bool), M_law_Orders_k1 b l order heads rounds Q c1 ∧ FrOk 90 [(0, .slice bA b.length bC), (1, .slice lA l.length lC), (2, .slice orderA order.length orderC), (3, iv heads), (4, .slice roundsA rounds.length roundsC), (39, .bool c1)] a ∧ Sat w0 none_ [hown 3 y3A y3C y3, hown 3 y1A y1C y1] w) ?_ ?_
 ·rintro a w ⟨c1, h, hf, hs⟩
  unfold M_law_Orders_k1 at h
  refine C.cond hf (b := c1) rfl (fun hc => ?_) (fun hc => ?_)
  ·replace h := h.1 hc
   refine wp_seq (R.list ?_)
   refine S.p hf hs (.bool false) rfl rfl fun a hf => ?_
   refine R.nil (X.then_ (wp_ret (X.then_ret ?_)))
   exact L.ret hf (run_results1 Tryd.results9 (ResIs.tmp hf rfl)) ⟨false, rfl, h, hs.nil⟩
  ·replace h := h.2 hc
   refine wp_skip (X.then_ (wp_seq (R.list ?_)))
   refine S.p hf hs (.slice bA b.length bC) rfl rfl fun a hf => ?_
   refine S.p hf hs (.slice lA l.length lC) rfl rfl fun a hf => ?_
   refine S.p hf hs (.slice orderA order.length orderC) rfl rfl fun a hf => ?_
   refine S.p hf hs (iv heads) rfl rfl fun a hf => ?_
   refine S.call hf rfl rfl rfl (call_fn (vs := [.slice bA b.length bC, .slice lA l.length lC, .slice orderA order.length orderC, iv heads]) rfl rfl rfl Tryd.call27) (R_mount_Rounds b l order heads _ bA bC ((Ag.args _ _ _).view hv_b hs) lA lC ((Ag.args _ _ _).view hv_l hs) orderA orderC ((Ag.args _ _ _).view hv_order hs) _ h) (fun v a w' hf hr => ?_)
   obtain ⟨y5, y5A, y5C, y5as, y6, rfl, h2, hs2⟩ := hr
   replace h := h2; replace hs := hs.call hs2; clear h2 hs2
   refine S.p hf hs (.tuple #[.slice y5A y5.length y5C, iv y6]) rfl rfl fun a hf => ?_
   refine S.p hf hs (.slice y5A y5.length y5C) rfl rfl fun a hf => ?_
   refine S.p hf hs (iv y6) rfl rfl fun a hf => ?_
   refine S.p hf hs (.slice y5A y5.length y5C) rfl rfl fun a hf => ?_
   refine S.p hf hs (iv y6) rfl rfl fun a hf => ?_
   refine R.nil (X.then_ (wp_seq (R.list ?_)))
   refine S.p hf hs (.slice bA b.length bC) rfl rfl fun a hf => ?_
   refine S.p hf hs (.slice lA l.length lC) rfl rfl fun a hf => ?_
   refine S.p hf hs (.slice orderA order.length orderC) rfl rfl fun a hf => ?_
   refine S.p hf hs (iv heads) rfl rfl fun a hf => ?_
   refine S.call hf rfl rfl rfl (call_fn (vs := [.slice bA b.length bC, .slice lA l.length lC, .slice orderA order.length orderC, iv heads]) rfl rfl rfl Tryd.call39) (R_ref10_Rounds b l order heads _ bA bC ((Ag.args _ _ _).view hv_b hs) lA lC ((Ag.args _ _ _).view hv_l hs) orderA orderC ((Ag.args _ _ _).view hv_order hs) _ h) (fun v a w' hf hr => ?_)
   obtain ⟨y7, y7A, y7C, y7as, y8, rfl, h2, hs2⟩ := hr
   replace h := h2; replace hs := hs.call hs2; clear h2 hs2
   refine S.p hf hs (.tuple #[.slice y7A y7.length y7C, iv y8]) rfl rfl fun a hf => ?_
   refine S.p hf hs (.slice y7A y7.length y7C) rfl rfl fun a hf => ?_
   refine S.p hf hs (iv y8) rfl rfl fun a hf => ?_
   refine S.p hf hs (.slice y7A y7.length y7C) rfl rfl fun a hf => ?_
   refine S.p hf hs (iv y8) rfl rfl fun a hf => ?_
   refine R.nil (X.then_ (wp_seq (wp_seq ?_)))
   refine C.cut (J := fun a w => ∃ (c2 : Bool), M_law_Orders_k2 b l rounds Q c2 ∧ FrOk 90 [(0, .slice bA b.length bC), (1, .slice lA l.length lC), (4, .slice roundsA rounds.length roundsC), (64, .bool c2)] a ∧ Sat w0 none_ [hrows 48 3 y7A y7C y7as y7, hrows 48 3 y5A y5C y5as y5, hown 3 y3A y3C y3, hown 3 y1A y1C y1] w) ?_ ?_
   ·rintro a w ⟨c2, h, hf, hs⟩
    unfold M_law_Orders_k2 at h
    refine C.cond hf (b := c2) rfl (fun hc => ?_) (fun hc => ?_)
    ·replace h := h.1 hc
     refine wp_seq (R.list ?_)
     refine S.p hf hs (.bool false) rfl rfl fun a hf => ?_
     refine R.nil (X.then_ (wp_ret (X.then_ret ?_)))
     exact L.ret hf (run_results1 Tryd.results9 (ResIs.tmp hf rfl)) ⟨false, rfl, h, hs.nil⟩
    ·replace h := h.2 hc
     refine wp_skip (X.then_ (wp_seq (R.list ?_)))
     refine S.p hf hs (.slice bA b.length bC) rfl rfl fun a hf => ?_
     refine S.p hf hs (.slice lA l.length lC) rfl rfl fun a hf => ?_
     refine S.p hf hs (.slice roundsA rounds.length roundsC) rfl rfl fun a hf => ?_
     refine S.call hf rfl rfl rfl (call_fn (vs := [.slice bA b.length bC, .slice lA l.length lC, .slice roundsA rounds.length roundsC]) rfl rfl rfl Tryd.call28) (R_mount_Nozzles b l rounds _ bA bC ((Ag.args _ _ _).view hv_b hs) lA lC ((Ag.args _ _ _).view hv_l hs) roundsA roundsC ((Ag.args _ _ _).view hv_rounds hs) _ h) (fun v a w' hf hr => ?_)
     obtain ⟨y9, y10, rfl, h2, hs2⟩ := hr
     replace h := h2; replace hs := hs.call hs2; clear h2 hs2
     refine S.p hf hs (.tuple #[iv y9, iv y10]) rfl rfl fun a hf => ?_
     refine S.p hf hs (iv y9) rfl rfl fun a hf => ?_
     refine S.p hf hs (iv y10) rfl rfl fun a hf => ?_
     refine S.p hf hs (iv y9) rfl rfl fun a hf => ?_
     refine S.p hf hs (iv y10) rfl rfl fun a hf => ?_
     refine R.nil (X.then_ (wp_seq (R.list ?_)))
     refine S.p hf hs (.slice bA b.length bC) rfl rfl fun a hf => ?_
     refine S.p hf hs (.slice lA l.length lC) rfl rfl fun a hf => ?_
     refine S.p hf hs (.slice roundsA rounds.length roundsC) rfl rfl fun a hf => ?_
     refine S.call hf rfl rfl rfl (call_fn (vs := [.slice bA b.length bC, .slice lA l.length lC, .slice roundsA rounds.length roundsC]) rfl rfl rfl Tryd.call41) (R_ref10_Nozzles b l rounds _ bA bC ((Ag.args _ _ _).view hv_b hs) lA lC ((Ag.args _ _ _).view hv_l hs) roundsA roundsC ((Ag.args _ _ _).view hv_rounds hs) _ h) (fun v a w' hf hr => ?_)
     obtain ⟨y11, y12, rfl, h2, hs2⟩ := hr
     replace h := h2; replace hs := hs.call hs2; clear h2 hs2
     refine S.p hf hs (.tuple #[iv y11, iv y12]) rfl rfl fun a hf => ?_
     refine S.p hf hs (iv y11) rfl rfl fun a hf => ?_
     refine S.p hf hs (iv y12) rfl rfl fun a hf => ?_
     refine S.p hf hs (iv y11) rfl rfl fun a hf => ?_
     refine S.p hf hs (iv y12) rfl rfl fun a hf => ?_
     refine R.nil (X.then_ (wp_seq (R.list ?_)))
     refine S.p hf hs (iv y10) rfl rfl fun a hf => ?_
     refine S.p hf hs (iv y12) rfl rfl fun a hf => ?_
     refine S.p hf hs (.bool (y10 == y12)) rfl rfl fun a hf => ?_
     refine S.split hf hs (b := y10 == y12) rfl rfl rfl (V.pure rfl) (fun hc a hf => ?_) (fun hc a hf => ?_)
     ·replace h := h.1 hc
      refine S.p hf hs (iv y9) rfl rfl fun a hf => ?_
      refine S.p hf hs (iv y11) rfl rfl fun a hf => ?_
      refine S.p hf hs (.bool (y9 == y11)) rfl rfl fun a hf => ?_
      refine S.p hf hs (.bool (y9 == y11)) rfl rfl fun a hf => ?_
      refine S.split hf hs (b := y9 == y11) rfl rfl rfl (V.pure rfl) (fun hc a hf => ?_) (fun hc a hf => ?_)
      ·replace h := h.1 hc
       refine S.call hf rfl rfl rfl (call_fn (vs := []) rfl rfl rfl Tryd.call13) (R_awake  _  _ h) (fun v a w' hf hr => ?_)
       obtain ⟨y13, rfl, h2, hs2⟩ := hr
       replace h := h2; replace hs := hs.call hs2; clear h2 hs2
       refine S.p hf hs (.bool y13) rfl rfl fun a hf => ?_
       refine S.p hf hs (.bool y13) rfl rfl fun a hf => ?_
       refine R.nil (X.then_ (wp_ret ?_))
       exact L.ret hf (run_results1 Tryd.results9 (ResIs.tmp hf rfl)) ⟨y13, rfl, h, hs.nil⟩
      ·replace h := h.2 hc
       refine S.k hf rfl fun a hf => ?_
       refine S.p hf hs (.bool false) rfl rfl fun a hf => ?_
       refine S.p hf hs (.bool false) rfl rfl fun a hf => ?_
       refine R.nil (X.then_ (wp_ret ?_))
       exact L.ret hf (run_results1 Tryd.results9 (ResIs.tmp hf rfl)) ⟨false, rfl, h, hs.nil⟩
     ·replace h := h.2 hc
      refine S.k hf rfl fun a hf => ?_
      refine S.k hf rfl fun a hf => ?_
      refine S.k hf rfl fun a hf => ?_
      refine S.p hf hs (.bool false) rfl rfl fun a hf => ?_
      refine S.p hf hs (.bool false) rfl rfl fun a hf => ?_
      refine S.k hf rfl fun a hf => ?_
      refine S.p hf hs (.bool false) rfl rfl fun a hf => ?_
      refine S.p hf hs (.bool false) rfl rfl fun a hf => ?_
      refine R.nil (X.then_ (wp_ret ?_))
      exact L.ret hf (run_results1 Tryd.results9 (ResIs.tmp hf rfl)) ⟨false, rfl, h, hs.nil⟩
   ·skip
    refine R.list ?_
    refine S.p hf hs (iv y6) rfl rfl fun a hf => ?_
    refine S.p hf hs (iv y8) rfl rfl fun a hf => ?_
    refine S.p hf hs (.bool (y6 != y8)) rfl rfl fun a hf => ?_
    refine S.split hf hs (b := y6 != y8) rfl rfl rfl (V.pure rfl) (fun hc a hf => ?_) (fun hc a hf => ?_)
    ·replace h := h.1 hc
     refine S.k hf rfl fun a hf => ?_
     refine S.k hf rfl fun a hf => ?_
     refine S.k hf rfl fun a hf => ?_
     refine S.k hf rfl fun a hf => ?_
     refine S.p hf hs (.bool true) rfl rfl fun a hf => ?_
     refine R.nil (X.then_ ?_)
     exact ⟨true, h, ((((hf.nil.cons (hf.get 64 _ rfl)).cons (hf.get 4 _ rfl)).cons (hf.get 1 _ rfl)).cons (hf.get 0 _ rfl)), hs⟩
    ·replace h := h.2 hc
     refine S.p hf hs (.slice y5A y5.length y5C) rfl rfl fun a hf => ?_
     refine S.p hf hs (.slice y7A y7.length y7C) rfl rfl fun a hf => ?_
     refine S.call hf rfl rfl rfl (call_fn (vs := [.slice y5A y5.length y5C, .slice y7A y7.length y7C]) rfl rfl rfl Tryd.call40) (R_ref10_SameRounds y5 y7 _ y5A y5C (hs.rowsView 1 rfl) y7A y7C (hs.rowsView 0 rfl) _ h) (fun v a w' hf hr => ?_)
     obtain ⟨y14, rfl, h2, hs2⟩ := hr
     replace h := h2; replace hs := hs.call hs2; clear h2 hs2
     refine S.p hf hs (.bool (!y14)) rfl rfl fun a hf => ?_
     refine S.p hf hs (.bool (!y14)) rfl rfl fun a hf => ?_
     refine R.nil (X.then_ ?_)
     exact ⟨(!y14), h, ((((hf.nil.cons (hf.get 64 _ rfl)).cons (hf.get 4 _ rfl)).cons (hf.get 1 _ rfl)).cons (hf.get 0 _ rfl)), hs⟩
 ·skip
  refine R.list ?_
  refine S.p hf hs (iv y2) rfl rfl fun a hf => ?_
  refine S.p hf hs (iv y4) rfl rfl fun a hf => ?_
  refine S.p hf hs (.bool (y2 != y4)) rfl rfl fun a hf => ?_
  refine S.split hf hs (b := y2 != y4) rfl rfl rfl (V.pure rfl) (fun hc a hf => ?_) (fun hc a hf => ?_)
  ·replace h := h.1 hc
   refine S.k hf rfl fun a hf => ?_
   refine S.k hf rfl fun a hf => ?_
   refine S.k hf rfl fun a hf => ?_
   refine S.k hf rfl fun a hf => ?_
   refine S.p hf hs (.bool true) rfl rfl fun a hf => ?_
   refine R.nil (X.then_ ?_)
   exact ⟨true, h, ((((((hf.nil.cons (hf.get 39 _ rfl)).cons (hf.get 4 _ rfl)).cons (hf.get 3 _ rfl)).cons (hf.get 2 _ rfl)).cons (hf.get 1 _ rfl)).cons (hf.get 0 _ rfl)), hs⟩
  ·replace h := h.2 hc
   refine S.p hf hs (.slice y1A y1.length y1C) rfl rfl fun a hf => ?_
   refine S.p hf hs (.slice y3A y3.length y3C) rfl rfl fun a hf => ?_
   refine S.call hf rfl rfl rfl (call_fn (vs := [.slice y1A y1.length y1C, .slice y3A y3.length y3C]) rfl rfl rfl Tryd.call29) (R_equal_int y1 y3 _ y1A y1C (hs.ownView 1 rfl) y3A y3C (hs.ownView 0 rfl) _ h) (fun v a w' hf hr => ?_)
   obtain ⟨y15, rfl, h2, hs2⟩ := hr
   replace h := h2; replace hs := hs.call hs2; clear h2 hs2
   refine S.p hf hs (.bool (!y15)) rfl rfl fun a hf => ?_
   refine S.p hf hs (.bool (!y15)) rfl rfl fun a hf => ?_
   refine R.nil (X.then_ ?_)
   exact ⟨(!y15), h, ((((((hf.nil.cons (hf.get 39 _ rfl)).cons (hf.get 4 _ rfl)).cons (hf.get 3 _ rfl)).cons (hf.get 2 _ rfl)).cons (hf.get 1 _ rfl)).cons (hf.get 0 _ rfl)), hs⟩
set_option linter.unusedVariables false
def M_law_OrderIsOne_k2 (Q : Bool → Prop) (n2 : Int) (again1 : Int → Prop) (c1 : Bool) : Prop :=
  cnd c1 (Q false) (again1 (w64 (n2 + 1)))
def M_law_OrderIsOne_k4 (Q : Bool → Prop) (next2 : Prop) (c2 : Bool) : Prop :=
  cnd c2 (Q false) (next2)
def M_law_OrderIsOne_L2 (heads : Int) (Q : Bool → Prop) (k3 : Nat) (xk3 : (List Int))  (next2 : Prop) : Prop :=
  cnd ((xk3.length : Int) == 0) (M_law_OrderIsOne_k4 Q next2 true) (M_law_OrderIsOne_k4 Q next2 (decide ((xk3.length : Int) > heads)))
def M_law_OrderIsOne_L1 (b : (List Body)) (l : (List Place)) (heads : Int) (Q : Bool → Prop) (y1 : (List Int)) (again1 : Int → Prop) (n2 : Int) : Prop :=
  cnd (decide (n2 < (y1.length : Int))) (idx y1 (w64 (n2 - 1)) fun x1 => idx l x1 fun x2 => idx y1 n2 fun x3 => idx l x3 fun x4 => cnd x2.Below (cnd (!x4.Below) (M_law_OrderIsOne_k2 Q n2 again1 true) (cnd (x2.Below == x4.Below) (M_ref10_TallOf b x2 fun y5 => M_ref10_TallOf b x4 fun y6 => M_law_OrderIsOne_k2 Q n2 again1 (decide (y5 > y6))) (M_law_OrderIsOne_k2 Q n2 again1 false))) (cnd (x2.Below == x4.Below) (M_ref10_TallOf b x2 fun y7 => M_ref10_TallOf b x4 fun y8 => M_law_OrderIsOne_k2 Q n2 again1 (decide (y7 > y8))) (M_law_OrderIsOne_k2 Q n2 again1 false))) (M_mount_Rounds b l y1 heads fun y9 y10 => cnd (y10 != 0) (cnd (y10 == 1) (M_awake  fun y11 => Q y11) (Q false)) (forIn' (fun k x (s : Unit) next => M_law_OrderIsOne_L2 heads Q k x (next ())) (fun (s : Unit) => M_mount_Nozzles b l y9 fun y12 y13 => M_concat_int y9 fun y14 => M_equal_int y14 y1 fun y15 => cnd y15 (cnd (y13 == 0) (M_awake  fun y16 => Q y16) (Q false)) (Q false)) y9 0 ()))
def M_law_OrderIsOne (b : (List Body)) (l : (List Place)) (heads : Int) (Q : Bool → Prop) : Prop :=
  M_mount_Ordered b l fun y1 y2 => cnd (y2 != 0) (cnd ((y1.length : Int) == 0) (M_awake  fun y3 => Q y3) (Q false)) (M_ref10_IsOrder y1 (l.length : Int) fun y4 => cnd (!y4) (Q false) (lp (fun again (s : Int) => M_law_OrderIsOne_L1 b l heads Q y1 (fun n2 => again n2) s) 1))
set_option maxHeartbeats 1000000 in
theorem R_law_OrderIsOne (b : (List Body)) (l : (List Place)) (heads : Int) (w0 : World) (bA : Option Addr) (bC : Nat) (hv_b : View w0 (old w0 none_) bA bC b) (lA : Option Addr) (lC : Nat) (hv_l : View w0 (old w0 none_) lA lC l) (Q : Bool → Prop) (h : M_law_OrderIsOne b l heads Q) :
  Ret Tryd.prog 7 #[.slice bA b.length bC, .slice lA l.length lC, iv heads] w0 fun v w' => ∃ (r0 : Bool), v = .bool r0 ∧ Q r0 ∧ Sat w0 none_ [] w' := by
 refine fn_enter Tryd.func7 rfl Tryd.ntmps7 rfl (fs := [(0, .slice bA b.length bC), (1, .slice lA l.length lC), (2, iv heads)]) rfl (fun a hf => ?_)
 have hs := Sat.start w0 none_
 unfold M_law_OrderIsOne at h
 refine wp_seq (R.list ?_)
 refine S.p hf hs (.bool false) rfl rfl fun a hf => ?_
 refine R.nil (X.then_ (wp_seq (R.list ?_)))
 refine S.p hf hs (.slice bA b.length bC) rfl rfl fun a hf => ?_
 refine S.p hf hs (.slice lA l.length lC) rfl rfl fun a hf => ?_
 refine S.call hf rfl rfl rfl (call_fn (vs := [.slice bA b.length bC, .slice lA l.length lC]) rfl rfl rfl Tryd.call24) (R_mount_Ordered b l _ bA bC ((Ag.args _ _ _).view hv_b hs) lA lC ((Ag.args _ _ _).view hv_l hs) _ h) (fun v a w' hf hr => ?_)
 obtain ⟨y1, y1A, y1C, y2, rfl, h2, hs2⟩ := hr
 replace h := h2; replace hs := hs.call hs2; clear h2 hs2
 refine S.p hf hs (.tuple #[.slice y1A y1.length y1C, iv y2]) rfl rfl fun a hf => ?_
 refine S.p hf hs (.slice y1A y1.length y1C) rfl rfl fun a hf => ?_
 refine S.p hf hs (iv y2) rfl rfl fun a hf => ?_
 refine S.p hf hs (.slice y1A y1.length y1C) rfl rfl fun a hf => ?_
 refine S.p hf hs (iv y2) rfl rfl fun a hf => ?_
 refine R.nil (X.then_ (wp_seq (wp_seq (R.list ?_))))
 refine S.p hf hs (iv y2) rfl rfl fun a hf => ?_
 refine S.p hf hs (.bool (y2 != 0)) rfl rfl fun a hf => ?_
 refine R.nil (X.then_ ?_)
 refine C.cond hf (b := y2 != 0) rfl (fun hc => ?_) (fun hc => ?_)
 ·replace h := h.1 hc
  refine wp_seq (R.list ?_)
  refine S.p hf hs (.slice y1A y1.length y1C) rfl rfl fun a hf => ?_
  refine S.v hf hs (iv (y1.length : Int)) rfl (V.len rfl rfl Tryd.runUnderlying48) fun a hf => ?_
  refine S.p hf hs (.bool ((y1.length : Int) == 0)) rfl rfl fun a hf => ?_
  refine S.split hf hs (b := (y1.length : Int) == 0) rfl rfl rfl (V.pure rfl) (fun hc a hf => ?_) (fun hc a hf => ?_)
  ·replace h := h.1 hc
   refine S.call hf rfl rfl rfl (call_fn (vs := []) rfl rfl rfl Tryd.call13) (R_awake  _  _ h) (fun v a w' hf hr => ?_)
   obtain ⟨y3, rfl, h2, hs2⟩ := hr
   replace h := h2; replace hs := hs.call hs2; clear h2 hs2
   refine S.p hf hs (.bool y3) rfl rfl fun a hf => ?_
   refine S.p hf hs (.bool y3) rfl rfl fun a hf => ?_
   refine R.nil (X.then_ (wp_ret (X.then_ret ?_)))
   exact L.ret hf (run_results1 Tryd.results7 (ResIs.tmp hf rfl)) ⟨y3, rfl, h, hs.nil⟩
  ·replace h := h.2 hc
   refine S.k hf rfl fun a hf => ?_
   refine S.p hf hs (.bool false) rfl rfl fun a hf => ?_
   refine S.p hf hs (.bool false) rfl rfl fun a hf => ?_
   refine R.nil (X.then_ (wp_ret (X.then_ret ?_)))
   exact L.ret hf (run_results1 Tryd.results7 (ResIs.tmp hf rfl)) ⟨false, rfl, h, hs.nil⟩
 ·replace h := h.2 hc
  refine wp_skip (X.then_ (wp_seq (wp_seq (R.list ?_))))
  refine S.p hf hs (.slice y1A y1.length y1C) rfl rfl fun a hf => ?_
  refine S.p hf hs (.slice lA l.length lC) rfl rfl fun a hf => ?_
  refine S.v hf hs (iv (l.length : Int)) rfl (V.len rfl rfl Tryd.runUnderlying23) fun a hf => ?_
  refine S.call hf rfl rfl rfl (call_fn (vs := [.slice y1A y1.length y1C, iv (l.length : Int)]) rfl rfl rfl Tryd.call25) (R_ref10_IsOrder y1 (l.length : Int) _ y1A y1C (hs.ownView 0 rfl) _ h) (fun v a w' hf hr => ?_)
  obtain ⟨y4, rfl, h2, hs2⟩ := hr
  replace h := h2; replace hs := hs.call hs2; clear h2 hs2
  refine S.p hf hs (.bool (!y4)) rfl rfl fun a hf => ?_
  refine R.nil (X.then_ ?_)
  refine C.cond hf (b := !y4) rfl (fun hc => ?_) (fun hc => ?_)
  ·replace h := h.1 hc
   refine wp_seq (R.list ?_)
   refine S.p hf hs (.bool false) rfl rfl fun a hf => ?_
   refine R.nil (X.then_ (wp_ret (X.then_ret ?_)))
   exact L.ret hf (run_results1 Tryd.results7 (ResIs.tmp hf rfl)) ⟨false, rfl, h, hs.nil⟩
  ·replace h := h.2 hc
   refine wp_skip (X.then_ (wp_seq (wp_seq (R.list ?_))))
   refine S.p hf hs (iv 1) rfl rfl fun a hf => ?_
   refine R.nil (X.then_ (wp_block ?_))
   obtain ⟨kk, h⟩ := h
   refine C.loop (fun kk a w => ∃ (n2 : Int), iterF (fun again (s : Int) => M_law_OrderIsOne_L1 b l heads Q y1 (fun n2 => again n2) s) kk n2 ∧ FrOk 127 [(0, .slice bA b.length bC), (1, .slice lA l.length lC), (2, iv heads), (7, .slice y1A y1.length y1C), (9, iv n2)] a ∧ Sat w0 none_ [hown 3 y1A y1C y1] w) kk ⟨1, h, (((((hf.nil.cons (hf.get 9 _ rfl)).cons (hf.get 7 _ rfl)).cons (hf.get 2 _ rfl)).cons (hf.get 1 _ rfl)).cons (hf.get 0 _ rfl)), hs⟩ (fun a w ⟨_, h, _, _⟩ => h) ?_
   clear h hf hs
   rintro kk a w ⟨n2, h, hf, hs⟩
   obtain ⟨again1, hagain1⟩ : ∃ X : Int → Prop, X = (fun n2 => iterF (fun again (s : Int) => M_law_OrderIsOne_L1 b l heads Q y1 (fun n2 => again n2) s) kk n2) := ⟨_, rfl⟩
   replace h : M_law_OrderIsOne_L1 b l heads Q y1 again1 n2 := by rw [hagain1]; exact h
   unfold M_law_OrderIsOne_L1 at h
   refine wp_seq (wp_seq (R.list ?_))
   refine S.p hf hs (iv n2) rfl rfl fun a hf => ?_
   refine S.p hf hs (.slice y1A y1.length y1C) rfl rfl fun a hf => ?_
   refine S.v hf hs (iv (y1.length : Int)) rfl (V.len rfl rfl Tryd.runUnderlying48) fun a hf => ?_
   refine S.p hf hs (.bool (decide (n2 < (y1.length : Int)))) rfl rfl fun a hf => ?_
   refine R.nil (X.then_ ?_)
   refine C.cond hf (b := decide (n2 < (y1.length : Int))) rfl (fun hc => ?_) (fun hc => ?_)
   ·replace h := h.1 hc
    refine wp_skip (X.then_ (wp_seq (wp_block (wp_seq ?_))))
    refine H.start (S := Sat w0 none_ [hown 3 y1A y1C y1]) mo ?_
    replace hs := hs.drew
    refine H.v hf hs (.slice lA l.length lC) 0 rfl rfl (by kernel_rfl) (V.pure rfl) fun a hf => ?_
    refine H.v hf hs (.slice y1A y1.length y1C) 1 rfl rfl (by kernel_rfl) (V.pure rfl) fun a hf => ?_
    refine H.v hf hs (iv n2) 2 rfl rfl (by kernel_rfl) (V.pure rfl) fun a hf => ?_
    refine H.v hf hs (iv (w64 (n2 - 1))) 3 rfl rfl (by kernel_rfl) (V.pure rfl) fun a hf => ?_
    obtain ⟨h0x1, x1, hx1, h⟩ := h
    refine H.v hf hs (elemPtr y1A ((w64 (n2 - 1)).toNat * 1)) 4 rfl rfl (by kernel_rfl) (V.index rfl rfl rfl Tryd.runUnderlying48 Tryd.sizeOf3 (hs.ownSome 0 rfl (lt_of_get hx1)) h0x1 (lt_of_get hx1) rfl) fun a hf => ?_
    refine H.v hf hs (iv x1) 5 rfl rfl (by kernel_rfl) (V.loadOwn (off := 0) 0 rfl hx1 rfl rfl rfl Tryd.isAgg3 Tryd.sizeOf3 rfl rfl) fun a hf => ?_
    obtain ⟨h0x2, x2, hx2, h⟩ := h
    refine H.v hf hs (elemPtr lA (x1.toNat * 6)) 6 rfl rfl (by kernel_rfl) (V.index rfl rfl rfl Tryd.runUnderlying23 Tryd.sizeOf28 (hv_l.some_ (lt_of_get hx2)) h0x2 (lt_of_get hx2) rfl) fun a hf => ?_
    refine H.v hf hs (.agg #[.string (ba x2.Part), .string (ba x2.Typ), iv x2.At.X, iv x2.At.Y, iv x2.Quarters, .bool x2.Below]) 7 rfl rfl (by kernel_rfl) (V.loadEl (off := 0) (Ag.args _ _ _) (hv_l.flat hx2) rfl rfl rfl Tryd.isAgg28 Tryd.sizeOf28 rfl rfl) fun a hf => ?_
    refine H.v hf hs (.slice lA l.length lC) 8 rfl rfl (by kernel_rfl) (V.pure rfl) fun a hf => ?_
    refine H.v hf hs (.slice y1A y1.length y1C) 9 rfl rfl (by kernel_rfl) (V.pure rfl) fun a hf => ?_
    refine H.v hf hs (iv n2) 10 rfl rfl (by kernel_rfl) (V.pure rfl) fun a hf => ?_
    obtain ⟨h0x3, x3, hx3, h⟩ := h
    refine H.v hf hs (elemPtr y1A (n2.toNat * 1)) 11 rfl rfl (by kernel_rfl) (V.index rfl rfl rfl Tryd.runUnderlying48 Tryd.sizeOf3 (hs.ownSome 0 rfl (lt_of_get hx3)) h0x3 (lt_of_get hx3) rfl) fun a hf => ?_
    refine H.v hf hs (iv x3) 12 rfl rfl (by kernel_rfl) (V.loadOwn (off := 0) 0 rfl hx3 rfl rfl rfl Tryd.isAgg3 Tryd.sizeOf3 rfl rfl) fun a hf => ?_
    obtain ⟨h0x4, x4, hx4, h⟩ := h
    refine H.v hf hs (elemPtr lA (x3.toNat * 6)) 13 rfl rfl (by kernel_rfl) (V.index rfl rfl rfl Tryd.runUnderlying23 Tryd.sizeOf28 (hv_l.some_ (lt_of_get hx4)) h0x4 (lt_of_get hx4) rfl) fun a hf => ?_
    refine H.v hf hs (.agg #[.string (ba x4.Part), .string (ba x4.Typ), iv x4.At.X, iv x4.At.Y, iv x4.Quarters, .bool x4.Below]) 14 rfl rfl (by kernel_rfl) (V.loadEl (off := 0) (Ag.args _ _ _) (hv_l.flat hx4) rfl rfl rfl Tryd.isAgg28 Tryd.sizeOf28 rfl rfl) fun a hf => ?_
    refine H.alloc2 (i := 15) (j := 16) hf hs (fun w hs => hs) rfl rfl rfl rfl rfl rfl rfl rfl (fun _ => rfl) rfl (fun _ => rfl) (by kernel_rfl) (by kernel_rfl) (by kernel_rfl) (by kernel_rfl) [.string (ba []), .string (ba []), iv 0, iv 0, iv 0, .bool false] [.string (ba []), .string (ba []), iv 0, iv 0, iv 0, .bool false] rfl rfl Tryd.zeroValue28 rfl Tryd.zeroValue28 rfl (fun g1 g2 a w hf hs => ?_)
    refine H.one (i := 17) rfl (by kernel_rfl) ?_
    refine S.storeBox 1 hf hs rfl rfl [.string (ba x2.Part), .string (ba x2.Typ), iv x2.At.X, iv x2.At.Y, iv x2.Quarters, .bool x2.Below] [.string (ba x2.Part), .string (ba x2.Typ), iv x2.At.X, iv x2.At.Y, iv x2.Quarters, .bool x2.Below] rfl rfl rfl rfl rfl Tryd.sizeOf28 rfl rfl rfl rfl (fun a w hf hs => ?_)
    refine R.nil (X.then_ ?_)
    refine ⟨(hs.mask [false, false, true]), ?_⟩
    refine H.one (i := 18) rfl (by kernel_rfl) ?_
    refine S.storeBox 0 hf hs rfl rfl [.string (ba x4.Part), .string (ba x4.Typ), iv x4.At.X, iv x4.At.Y, iv x4.Quarters, .bool x4.Below] [.string (ba x4.Part), .string (ba x4.Typ), iv x4.At.X, iv x4.At.Y, iv x4.Quarters, .bool x4.Below] rfl rfl rfl rfl rfl Tryd.sizeOf28 rfl rfl rfl rfl (fun a w hf hs => ?_)
    refine R.nil (X.then_ ?_)
    refine ⟨(hs.mask [false, false, true]), ?_⟩
    refine H.done (by kernel_rfl) ?_
    refine X.then_ (wp_seq ?_)
    refine C.cut (J := fun a w => ∃ (c1 : Bool), M_law_OrderIsOne_k2 Q n2 again1 c1 ∧ FrOk 127 [(0, .slice bA b.length bC), (1, .slice lA l.length lC), (2, iv heads), (7, .slice y1A y1.length y1C), (9, iv n2), (77, .bool c1)] a ∧ Sat w0 none_ [hbox g2 28 [.string (ba x4.Part), .string (ba x4.Typ), iv x4.At.X, iv x4.At.Y, iv x4.Quarters, .bool x4.Below], hbox g1 28 [.string (ba x2.Part), .string (ba x2.Typ), iv x2.At.X, iv x2.At.Y, iv x2.Quarters, .bool x2.Below], hown 3 y1A y1C y1] w) ?_ ?_
    ·rintro a w ⟨c1, h, hf, hs⟩
     unfold M_law_OrderIsOne_k2 at h
     refine C.cond hf (b := c1) rfl (fun hc => ?_) (fun hc => ?_)
     ·replace h := h.1 hc
      refine wp_seq (R.list ?_)
      refine S.p hf hs (.bool false) rfl rfl fun a hf => ?_
      refine R.nil (X.then_ (wp_ret (X.blk_ret (X.then_ret (X.then_ret (X.blk_ret (X.then_ret ?_)))))))
      exact L.ret hf (run_results1 Tryd.results7 (ResIs.tmp hf rfl)) ⟨false, rfl, h, hs.nil⟩
     ·replace h := h.2 hc
      refine wp_skip (X.blk (X.then_ (R.list ?_)))
      refine S.p hf hs (iv n2) rfl rfl fun a hf => ?_
      refine S.p hf hs (iv (w64 (n2 + 1))) rfl rfl fun a hf => ?_
      refine S.p hf hs (iv (w64 (n2 + 1))) rfl rfl fun a hf => ?_
      refine R.nil (X.then_ ?_)
      exact ⟨(w64 (n2 + 1)), (by rw [hagain1] at h; exact h), (((((hf.nil.cons (hf.get 9 _ rfl)).cons (hf.get 7 _ rfl)).cons (hf.get 2 _ rfl)).cons (hf.get 1 _ rfl)).cons (hf.get 0 _ rfl)), hs.drop.drop⟩
    ·skip
     refine H.start (S := Sat w0 none_ [hbox g2 28 [.string (ba x4.Part), .string (ba x4.Typ), iv x4.At.X, iv x4.At.Y, iv x4.Quarters, .bool x4.Below], hbox g1 28 [.string (ba x2.Part), .string (ba x2.Typ), iv x2.At.X, iv x2.At.Y, iv x2.Quarters, .bool x2.Below], hown 3 y1A y1C y1]) mo ?_
     replace hs := hs.drew
     refine H.v hf hs ((pn g1 5)) 0 rfl rfl (by kernel_rfl) (V.fieldBox rfl rfl Tryd.runUnderlying28 rfl Tryd.sizeOf4 rfl rfl) fun a hf => ?_
     refine H.v hf hs (.bool x2.Below) 1 rfl rfl (by kernel_rfl) (V.loadBox 1 rfl rfl rfl Tryd.isAgg4 Tryd.sizeOf4 rfl rfl) fun a hf => ?_
     refine H.split hf hs (b := x2.Below) (i := 2) rfl rfl rfl rfl (by kernel_rfl) (by kernel_rfl) (by kernel_rfl) (V.pure rfl) (fun hc a hf => ?_) (fun hc a hf => ?_)
     ·replace h := h.1 hc
      refine H.v hf hs ((pn g2 5)) 3 rfl rfl (by kernel_rfl) (V.fieldBox rfl rfl Tryd.runUnderlying28 rfl Tryd.sizeOf4 rfl rfl) fun a hf => ?_
      refine H.v hf hs (.bool x4.Below) 4 rfl rfl (by kernel_rfl) (V.loadBox 0 rfl rfl rfl Tryd.isAgg4 Tryd.sizeOf4 rfl rfl) fun a hf => ?_
      refine H.v hf hs (.bool (!x4.Below)) 5 rfl rfl (by kernel_rfl) (V.pure rfl) fun a hf => ?_
      refine H.v hf hs (.bool (!x4.Below)) 6 rfl rfl (by kernel_rfl) (V.pure rfl) fun a hf => ?_
      refine H.split hf hs (b := !x4.Below) (i := 7) rfl rfl rfl rfl (by kernel_rfl) (by kernel_rfl) (by kernel_rfl) (V.pure rfl) (fun hc a hf => ?_) (fun hc a hf => ?_)
      ·replace h := h.1 hc
       refine H.k hf hs 8 rfl rfl (by kernel_rfl) fun a hf => ?_
       refine H.k hf hs 9 rfl rfl (by kernel_rfl) fun a hf => ?_
       refine H.k hf hs 10 rfl rfl (by kernel_rfl) fun a hf => ?_
       refine H.k hf hs 11 rfl rfl (by kernel_rfl) fun a hf => ?_
       refine H.k hf hs 12 rfl rfl (by kernel_rfl) fun a hf => ?_
       refine H.k hf hs 13 rfl rfl (by kernel_rfl) fun a hf => ?_
       refine H.k hf hs 14 rfl rfl (by kernel_rfl) fun a hf => ?_
       refine H.k hf hs 15 rfl rfl (by kernel_rfl) fun a hf => ?_
       refine H.k hf hs 17 rfl rfl (by kernel_rfl) fun a hf => ?_
       refine H.k hf hs 18 rfl rfl (by kernel_rfl) fun a hf => ?_
       refine H.one (i := 16) rfl (by kernel_rfl) ?_
       refine S.k hf rfl fun a hf => ?_
       refine R.nil (X.then_ ?_)
       refine ⟨hs, ?_⟩
       refine H.one (i := 19) rfl (by kernel_rfl) ?_
       refine S.k hf rfl fun a hf => ?_
       refine R.nil (X.then_ ?_)
       refine ⟨hs, ?_⟩
       refine H.k hf hs 20 rfl rfl (by kernel_rfl) fun a hf => ?_
       refine H.k hf hs 21 rfl rfl (by kernel_rfl) fun a hf => ?_
       refine H.v hf hs (.bool true) 22 rfl rfl (by kernel_rfl) (V.pure rfl) fun a hf => ?_
       refine H.done (by kernel_rfl) ?_
       refine X.then_ ?_
       exact ⟨true, h, ((((((hf.nil.cons (hf.get 77 _ rfl)).cons (hf.get 9 _ rfl)).cons (hf.get 7 _ rfl)).cons (hf.get 2 _ rfl)).cons (hf.get 1 _ rfl)).cons (hf.get 0 _ rfl)), hs⟩
      ·replace h := h.2 hc
       refine H.v hf hs ((pn g1 5)) 8 rfl rfl (by kernel_rfl) (V.fieldBox rfl rfl Tryd.runUnderlying28 rfl Tryd.sizeOf4 rfl rfl) fun a hf => ?_
       refine H.v hf hs (.bool x2.Below) 9 rfl rfl (by kernel_rfl) (V.loadBox 1 rfl rfl rfl Tryd.isAgg4 Tryd.sizeOf4 rfl rfl) fun a hf => ?_
       refine H.v hf hs ((pn g2 5)) 10 rfl rfl (by kernel_rfl) (V.fieldBox rfl rfl Tryd.runUnderlying28 rfl Tryd.sizeOf4 rfl rfl) fun a hf => ?_
       refine H.v hf hs (.bool x4.Below) 11 rfl rfl (by kernel_rfl) (V.loadBox 0 rfl rfl rfl Tryd.isAgg4 Tryd.sizeOf4 rfl rfl) fun a hf => ?_
       refine H.v hf hs (.bool (x2.Below == x4.Below)) 12 rfl rfl (by kernel_rfl) (V.boolEq rfl rfl rfl Tryd.underlying4 rfl) fun a hf => ?_
       refine H.split hf hs (b := x2.Below == x4.Below) (i := 13) rfl rfl rfl rfl (by kernel_rfl) (by kernel_rfl) (by kernel_rfl) (V.pure rfl) (fun hc a hf => ?_) (fun hc a hf => ?_)
       ·replace h := h.1 hc
        refine H.v hf hs (.slice bA b.length bC) 14 rfl rfl (by kernel_rfl) (V.pure rfl) fun a hf => ?_
        refine H.v hf hs (.agg #[.string (ba x2.Part), .string (ba x2.Typ), iv x2.At.X, iv x2.At.Y, iv x2.Quarters, .bool x2.Below]) 15 rfl rfl (by kernel_rfl) (V.loadBox 1 rfl rfl rfl Tryd.isAgg28 Tryd.sizeOf28 rfl rfl) fun a hf => ?_
        refine H.v hf hs (.slice bA b.length bC) 17 rfl rfl (by kernel_rfl) (V.pure rfl) fun a hf => ?_
        refine H.v hf hs (.agg #[.string (ba x4.Part), .string (ba x4.Typ), iv x4.At.X, iv x4.At.Y, iv x4.Quarters, .bool x4.Below]) 18 rfl rfl (by kernel_rfl) (V.loadBox 0 rfl rfl rfl Tryd.isAgg28 Tryd.sizeOf28 rfl rfl) fun a hf => ?_
        refine H.one (i := 16) rfl (by kernel_rfl) ?_
        refine S.call hf rfl rfl rfl (call_fn (vs := [.slice bA b.length bC, .agg #[.string (ba x2.Part), .string (ba x2.Typ), iv x2.At.X, iv x2.At.Y, iv x2.Quarters, .bool x2.Below]]) rfl rfl rfl Tryd.call26) (R_ref10_TallOf b x2 _ bA bC ((Ag.args _ _ _).view hv_b hs) _ h) (fun v a w' hf hr => ?_)
        obtain ⟨y5, rfl, h2, hs2⟩ := hr
        replace h := h2; replace hs := hs.call hs2; clear h2 hs2
        refine R.nil (X.then_ ?_)
        refine ⟨hs, ?_⟩
        refine H.one (i := 19) rfl (by kernel_rfl) ?_
        refine S.call hf rfl rfl rfl (call_fn (vs := [.slice bA b.length bC, .agg #[.string (ba x4.Part), .string (ba x4.Typ), iv x4.At.X, iv x4.At.Y, iv x4.Quarters, .bool x4.Below]]) rfl rfl rfl Tryd.call26) (R_ref10_TallOf b x4 _ bA bC ((Ag.args _ _ _).view hv_b hs) _ h) (fun v a w' hf hr => ?_)
        obtain ⟨y6, rfl, h2, hs2⟩ := hr
        replace h := h2; replace hs := hs.call hs2; clear h2 hs2
        refine R.nil (X.then_ ?_)
        refine ⟨hs, ?_⟩
        refine H.v hf hs (.bool (decide (y5 > y6))) 20 rfl rfl (by kernel_rfl) (V.pure rfl) fun a hf => ?_
        refine H.v hf hs (.bool (decide (y5 > y6))) 21 rfl rfl (by kernel_rfl) (V.pure rfl) fun a hf => ?_
        refine H.v hf hs (.bool (decide (y5 > y6))) 22 rfl rfl (by kernel_rfl) (V.pure rfl) fun a hf => ?_
        refine H.done (by kernel_rfl) ?_
        refine X.then_ ?_
        exact ⟨(decide (y5 > y6)), h, ((((((hf.nil.cons (hf.get 77 _ rfl)).cons (hf.get 9 _ rfl)).cons (hf.get 7 _ rfl)).cons (hf.get 2 _ rfl)).cons (hf.get 1 _ rfl)).cons (hf.get 0 _ rfl)), hs⟩
       ·replace h := h.2 hc
        refine H.k hf hs 14 rfl rfl (by kernel_rfl) fun a hf => ?_
        refine H.k hf hs 15 rfl rfl (by kernel_rfl) fun a hf => ?_
        refine H.k hf hs 17 rfl rfl (by kernel_rfl) fun a hf => ?_
        refine H.k hf hs 18 rfl rfl (by kernel_rfl) fun a hf => ?_
        refine H.one (i := 16) rfl (by kernel_rfl) ?_
        refine S.k hf rfl fun a hf => ?_
        refine R.nil (X.then_ ?_)
        refine ⟨hs, ?_⟩
        refine H.one (i := 19) rfl (by kernel_rfl) ?_
        refine S.k hf rfl fun a hf => ?_
        refine R.nil (X.then_ ?_)
        refine ⟨hs, ?_⟩
        refine H.k hf hs 20 rfl rfl (by kernel_rfl) fun a hf => ?_
        refine H.v hf hs (.bool false) 21 rfl rfl (by kernel_rfl) (V.pure rfl) fun a hf => ?_
        refine H.v hf hs (.bool false) 22 rfl rfl (by kernel_rfl) (V.pure rfl) fun a hf => ?_
        refine H.done (by kernel_rfl) ?_
        refine X.then_ ?_
        exact ⟨false, h, ((((((hf.nil.cons (hf.get 77 _ rfl)).cons (hf.get 9 _ rfl)).cons (hf.get 7 _ rfl)).cons (hf.get 2 _ rfl)).cons (hf.get 1 _ rfl)).cons (hf.get 0 _ rfl)), hs⟩
     ·replace h := h.2 hc
      refine H.k hf hs 3 rfl rfl (by kernel_rfl) fun a hf => ?_
      refine H.k hf hs 4 rfl rfl (by kernel_rfl) fun a hf => ?_
      refine H.k hf hs 5 rfl rfl (by kernel_rfl) fun a hf => ?_
      refine H.v hf hs (.bool false) 6 rfl rfl (by kernel_rfl) (V.pure rfl) fun a hf => ?_
      refine H.v hf hs (.bool false) 7 rfl rfl (by kernel_rfl) (V.pure rfl) fun a hf => ?_
      refine H.v hf hs ((pn g1 5)) 8 rfl rfl (by kernel_rfl) (V.fieldBox rfl rfl Tryd.runUnderlying28 rfl Tryd.sizeOf4 rfl rfl) fun a hf => ?_
      refine H.v hf hs (.bool x2.Below) 9 rfl rfl (by kernel_rfl) (V.loadBox 1 rfl rfl rfl Tryd.isAgg4 Tryd.sizeOf4 rfl rfl) fun a hf => ?_
      refine H.v hf hs ((pn g2 5)) 10 rfl rfl (by kernel_rfl) (V.fieldBox rfl rfl Tryd.runUnderlying28 rfl Tryd.sizeOf4 rfl rfl) fun a hf => ?_
      refine H.v hf hs (.bool x4.Below) 11 rfl rfl (by kernel_rfl) (V.loadBox 0 rfl rfl rfl Tryd.isAgg4 Tryd.sizeOf4 rfl rfl) fun a hf => ?_
      refine H.v hf hs (.bool (x2.Below == x4.Below)) 12 rfl rfl (by kernel_rfl) (V.boolEq rfl rfl rfl Tryd.underlying4 rfl) fun a hf => ?_
      refine H.split hf hs (b := x2.Below == x4.Below) (i := 13) rfl rfl rfl rfl (by kernel_rfl) (by kernel_rfl) (by kernel_rfl) (V.pure rfl) (fun hc a hf => ?_) (fun hc a hf => ?_)
      ·replace h := h.1 hc
       refine H.v hf hs (.slice bA b.length bC) 14 rfl rfl (by kernel_rfl) (V.pure rfl) fun a hf => ?_
       refine H.v hf hs (.agg #[.string (ba x2.Part), .string (ba x2.Typ), iv x2.At.X, iv x2.At.Y, iv x2.Quarters, .bool x2.Below]) 15 rfl rfl (by kernel_rfl) (V.loadBox 1 rfl rfl rfl Tryd.isAgg28 Tryd.sizeOf28 rfl rfl) fun a hf => ?_
       refine H.v hf hs (.slice bA b.length bC) 17 rfl rfl (by kernel_rfl) (V.pure rfl) fun a hf => ?_
       refine H.v hf hs (.agg #[.string (ba x4.Part), .string (ba x4.Typ), iv x4.At.X, iv x4.At.Y, iv x4.Quarters, .bool x4.Below]) 18 rfl rfl (by kernel_rfl) (V.loadBox 0 rfl rfl rfl Tryd.isAgg28 Tryd.sizeOf28 rfl rfl) fun a hf => ?_
       refine H.one (i := 16) rfl (by kernel_rfl) ?_
       refine S.call hf rfl rfl rfl (call_fn (vs := [.slice bA b.length bC, .agg #[.string (ba x2.Part), .string (ba x2.Typ), iv x2.At.X, iv x2.At.Y, iv x2.Quarters, .bool x2.Below]]) rfl rfl rfl Tryd.call26) (R_ref10_TallOf b x2 _ bA bC ((Ag.args _ _ _).view hv_b hs) _ h) (fun v a w' hf hr => ?_)
       obtain ⟨y7, rfl, h2, hs2⟩ := hr
       replace h := h2; replace hs := hs.call hs2; clear h2 hs2
       refine R.nil (X.then_ ?_)
       refine ⟨hs, ?_⟩
       refine H.one (i := 19) rfl (by kernel_rfl) ?_
       refine S.call hf rfl rfl rfl (call_fn (vs := [.slice bA b.length bC, .agg #[.string (ba x4.Part), .string (ba x4.Typ), iv x4.At.X, iv x4.At.Y, iv x4.Quarters, .bool x4.Below]]) rfl rfl rfl Tryd.call26) (R_ref10_TallOf b x4 _ bA bC ((Ag.args _ _ _).view hv_b hs) _ h) (fun v a w' hf hr => ?_)
       obtain ⟨y8, rfl, h2, hs2⟩ := hr
       replace h := h2; replace hs := hs.call hs2; clear h2 hs2
       refine R.nil (X.then_ ?_)
       refine ⟨hs, ?_⟩
       refine H.v hf hs (.bool (decide (y7 > y8))) 20 rfl rfl (by kernel_rfl) (V.pure rfl) fun a hf => ?_
       refine H.v hf hs (.bool (decide (y7 > y8))) 21 rfl rfl (by kernel_rfl) (V.pure rfl) fun a hf => ?_
       refine H.v hf hs (.bool (decide (y7 > y8))) 22 rfl rfl (by kernel_rfl) (V.pure rfl) fun a hf => ?_
       refine H.done (by kernel_rfl) ?_
       refine X.then_ ?_
       exact ⟨(decide (y7 > y8)), h, ((((((hf.nil.cons (hf.get 77 _ rfl)).cons (hf.get 9 _ rfl)).cons (hf.get 7 _ rfl)).cons (hf.get 2 _ rfl)).cons (hf.get 1 _ rfl)).cons (hf.get 0 _ rfl)), hs⟩
      ·replace h := h.2 hc
       refine H.k hf hs 14 rfl rfl (by kernel_rfl) fun a hf => ?_
       refine H.k hf hs 15 rfl rfl (by kernel_rfl) fun a hf => ?_
       refine H.k hf hs 17 rfl rfl (by kernel_rfl) fun a hf => ?_
       refine H.k hf hs 18 rfl rfl (by kernel_rfl) fun a hf => ?_
       refine H.one (i := 16) rfl (by kernel_rfl) ?_
       refine S.k hf rfl fun a hf => ?_
       refine R.nil (X.then_ ?_)
       refine ⟨hs, ?_⟩
       refine H.one (i := 19) rfl (by kernel_rfl) ?_
       refine S.k hf rfl fun a hf => ?_
       refine R.nil (X.then_ ?_)
       refine ⟨hs, ?_⟩
       refine H.k hf hs 20 rfl rfl (by kernel_rfl) fun a hf => ?_
       refine H.v hf hs (.bool false) 21 rfl rfl (by kernel_rfl) (V.pure rfl) fun a hf => ?_
       refine H.v hf hs (.bool false) 22 rfl rfl (by kernel_rfl) (V.pure rfl) fun a hf => ?_
       refine H.done (by kernel_rfl) ?_
       refine X.then_ ?_
       exact ⟨false, h, ((((((hf.nil.cons (hf.get 77 _ rfl)).cons (hf.get 9 _ rfl)).cons (hf.get 7 _ rfl)).cons (hf.get 2 _ rfl)).cons (hf.get 1 _ rfl)).cons (hf.get 0 _ rfl)), hs⟩
   ·replace h := h.2 hc
    refine wp_exit (X.then_exit (X.then_exit (X.blk_exit (X.then_ (wp_seq (R.list ?_))))))
    refine S.p hf hs (.slice bA b.length bC) rfl rfl fun a hf => ?_
    refine S.p hf hs (.slice lA l.length lC) rfl rfl fun a hf => ?_
    refine S.p hf hs (.slice y1A y1.length y1C) rfl rfl fun a hf => ?_
    refine S.p hf hs (iv heads) rfl rfl fun a hf => ?_
    refine S.call hf rfl rfl rfl (call_fn (vs := [.slice bA b.length bC, .slice lA l.length lC, .slice y1A y1.length y1C, iv heads]) rfl rfl rfl Tryd.call27) (R_mount_Rounds b l y1 heads _ bA bC ((Ag.args _ _ _).view hv_b hs) lA lC ((Ag.args _ _ _).view hv_l hs) y1A y1C (hs.ownView 0 rfl) _ h) (fun v a w' hf hr => ?_)
    obtain ⟨y9, y9A, y9C, y9as, y10, rfl, h2, hs2⟩ := hr
    replace h := h2; replace hs := hs.call hs2; clear h2 hs2
    refine S.p hf hs (.tuple #[.slice y9A y9.length y9C, iv y10]) rfl rfl fun a hf => ?_
    refine S.p hf hs (.slice y9A y9.length y9C) rfl rfl fun a hf => ?_
    refine S.p hf hs (iv y10) rfl rfl fun a hf => ?_
    refine S.p hf hs (.slice y9A y9.length y9C) rfl rfl fun a hf => ?_
    refine S.p hf hs (iv y10) rfl rfl fun a hf => ?_
    refine R.nil (X.then_ (wp_seq (wp_seq (R.list ?_))))
    refine S.p hf hs (iv y10) rfl rfl fun a hf => ?_
    refine S.p hf hs (.bool (y10 != 0)) rfl rfl fun a hf => ?_
    refine R.nil (X.then_ ?_)
    refine C.cond hf (b := y10 != 0) rfl (fun hc => ?_) (fun hc => ?_)
    ·replace h := h.1 hc
     refine wp_seq (R.list ?_)
     refine S.p hf hs (iv y10) rfl rfl fun a hf => ?_
     refine S.p hf hs (.bool (y10 == 1)) rfl rfl fun a hf => ?_
     refine S.split hf hs (b := y10 == 1) rfl rfl rfl (V.pure rfl) (fun hc a hf => ?_) (fun hc a hf => ?_)
     ·replace h := h.1 hc
      refine S.call hf rfl rfl rfl (call_fn (vs := []) rfl rfl rfl Tryd.call13) (R_awake  _  _ h) (fun v a w' hf hr => ?_)
      obtain ⟨y11, rfl, h2, hs2⟩ := hr
      replace h := h2; replace hs := hs.call hs2; clear h2 hs2
      refine S.p hf hs (.bool y11) rfl rfl fun a hf => ?_
      refine S.p hf hs (.bool y11) rfl rfl fun a hf => ?_
      refine R.nil (X.then_ (wp_ret (X.then_ret ?_)))
      exact L.ret hf (run_results1 Tryd.results7 (ResIs.tmp hf rfl)) ⟨y11, rfl, h, hs.nil⟩
     ·replace h := h.2 hc
      refine S.k hf rfl fun a hf => ?_
      refine S.p hf hs (.bool false) rfl rfl fun a hf => ?_
      refine S.p hf hs (.bool false) rfl rfl fun a hf => ?_
      refine R.nil (X.then_ (wp_ret (X.then_ret ?_)))
      exact L.ret hf (run_results1 Tryd.results7 (ResIs.tmp hf rfl)) ⟨false, rfl, h, hs.nil⟩
    ·replace h := h.2 hc
     refine wp_skip (X.then_ (wp_seq (wp_seq (R.list ?_))))
     refine S.p hf hs (.slice y9A y9.length y9C) rfl rfl fun a hf => ?_
     refine S.v hf hs (iv (y9.length : Int)) rfl (V.len rfl rfl Tryd.runUnderlying61) fun a hf => ?_
     refine S.p hf hs (iv 0) rfl rfl fun a hf => ?_
     refine R.nil (X.then_ (wp_block ?_))
     have hlenk3 := (hs.rowsView 0 rfl).len64
     refine C.range (fun (ll : List (List Int)) a w => ∃ (k3 : Nat) , y9.drop k3 = ll ∧ k3 + ll.length = y9.length ∧ forIn' (fun k x (s : Unit) next => M_law_OrderIsOne_L2 heads Q k x (next ())) (fun (s : Unit) => M_mount_Nozzles b l y9 fun y12 y13 => M_concat_int y9 fun y14 => M_equal_int y14 y1 fun y15 => cnd y15 (cnd (y13 == 0) (M_awake  fun y16 => Q y16) (Q false)) (Q false)) ll k3 () ∧ FrOk 127 [(95, iv (k3 : Int)), (0, .slice bA b.length bC), (1, .slice lA l.length lC), (2, iv heads), (7, .slice y1A y1.length y1C), (12, .slice y9A y9.length y9C), (93, .slice y9A y9.length y9C), (94, iv (y9.length : Int))] a ∧ Sat w0 none_ [hrows 48 3 y9A y9C y9as y9, hown 3 y1A y1C y1] w) y9 ⟨0, rfl, Nat.zero_add _, h, ((((((((hf.nil.cons (hf.get 94 _ rfl)).cons (hf.get 93 _ rfl)).cons (hf.get 12 _ rfl)).cons (hf.get 7 _ rfl)).cons (hf.get 2 _ rfl)).cons (hf.get 1 _ rfl)).cons (hf.get 0 _ rfl)).cons (hf.get 95 _ rfl)), hs⟩ ?_
     clear h hf hs
     rintro llk3 a w ⟨k3, hlk3, hkk3, h, hf, hs⟩
     cases llk3 with
     | nil =>
      have hc := range_done hkk3
      replace h : M_mount_Nozzles b l y9 fun y12 y13 => M_concat_int y9 fun y14 => M_equal_int y14 y1 fun y15 => cnd y15 (cnd (y13 == 0) (M_awake  fun y16 => Q y16) (Q false)) (Q false) := h
      refine wp_seq (R.list ?_)
      refine S.v hf hs (.bool false) rfl (V.cmp false rfl rfl rfl rfl hc) fun a hf => ?_
      refine R.nil (X.then_ (wp_seq ?_))
      refine C.no hf rfl ?_
      refine wp_exit (X.then_exit (X.then_exit (X.blk_exit (X.then_ (wp_seq (R.list ?_))))))
      refine S.p hf hs (.slice bA b.length bC) rfl rfl fun a hf => ?_
      refine S.p hf hs (.slice lA l.length lC) rfl rfl fun a hf => ?_
      refine S.p hf hs (.slice y9A y9.length y9C) rfl rfl fun a hf => ?_
      refine S.call hf rfl rfl rfl (call_fn (vs := [.slice bA b.length bC, .slice lA l.length lC, .slice y9A y9.length y9C]) rfl rfl rfl Tryd.call28) (R_mount_Nozzles b l y9 _ bA bC ((Ag.args _ _ _).view hv_b hs) lA lC ((Ag.args _ _ _).view hv_l hs) y9A y9C (hs.rowsView 0 rfl) _ h) (fun v a w' hf hr => ?_)
      obtain ⟨y12, y13, rfl, h2, hs2⟩ := hr
      replace h := h2; replace hs := hs.call hs2; clear h2 hs2
      refine S.p hf hs (.tuple #[iv y12, iv y13]) rfl rfl fun a hf => ?_
      refine S.p hf hs (iv y12) rfl rfl fun a hf => ?_
      refine S.p hf hs (iv y13) rfl rfl fun a hf => ?_
      refine S.p hf hs (iv y13) rfl rfl fun a hf => ?_
      refine R.nil (X.then_ (wp_seq (R.list ?_)))
      refine S.p hf hs (.slice y9A y9.length y9C) rfl rfl fun a hf => ?_
      refine S.call hf rfl rfl rfl (call_fn (vs := [.slice y9A y9.length y9C]) rfl rfl rfl Tryd.call30) (R_concat_int y9 _ y9A y9C (hs.rowsView 0 rfl) _ h) (fun v a w' hf hr => ?_)
      obtain ⟨y14, y14A, y14C, rfl, h2, hs2⟩ := hr
      replace h := h2; replace hs := hs.call hs2; clear h2 hs2
      refine S.p hf hs (.slice y1A y1.length y1C) rfl rfl fun a hf => ?_
      refine S.call hf rfl rfl rfl (call_fn (vs := [.slice y14A y14.length y14C, .slice y1A y1.length y1C]) rfl rfl rfl Tryd.call29) (R_equal_int y14 y1 _ y14A y14C (hs.ownView 0 rfl) y1A y1C (hs.ownView 2 rfl) _ h) (fun v a w' hf hr => ?_)
      obtain ⟨y15, rfl, h2, hs2⟩ := hr
      replace h := h2; replace hs := hs.call hs2; clear h2 hs2
      refine S.split hf hs (b := y15) rfl rfl rfl (V.pure rfl) (fun hc a hf => ?_) (fun hc a hf => ?_)
      ·replace h := h.1 hc
       refine S.p hf hs (iv y13) rfl rfl fun a hf => ?_
       refine S.p hf hs (.bool (y13 == 0)) rfl rfl fun a hf => ?_
       refine S.p hf hs (.bool (y13 == 0)) rfl rfl fun a hf => ?_
       refine S.split hf hs (b := y13 == 0) rfl rfl rfl (V.pure rfl) (fun hc a hf => ?_) (fun hc a hf => ?_)
       ·replace h := h.1 hc
        refine S.call hf rfl rfl rfl (call_fn (vs := []) rfl rfl rfl Tryd.call13) (R_awake  _  _ h) (fun v a w' hf hr => ?_)
        obtain ⟨y16, rfl, h2, hs2⟩ := hr
        replace h := h2; replace hs := hs.call hs2; clear h2 hs2
        refine S.p hf hs (.bool y16) rfl rfl fun a hf => ?_
        refine S.p hf hs (.bool y16) rfl rfl fun a hf => ?_
        refine R.nil (X.then_ (wp_ret ?_))
        exact L.ret hf (run_results1 Tryd.results7 (ResIs.tmp hf rfl)) ⟨y16, rfl, h, hs.nil⟩
       ·replace h := h.2 hc
        refine S.k hf rfl fun a hf => ?_
        refine S.p hf hs (.bool false) rfl rfl fun a hf => ?_
        refine S.p hf hs (.bool false) rfl rfl fun a hf => ?_
        refine R.nil (X.then_ (wp_ret ?_))
        exact L.ret hf (run_results1 Tryd.results7 (ResIs.tmp hf rfl)) ⟨false, rfl, h, hs.nil⟩
      ·replace h := h.2 hc
       refine S.k hf rfl fun a hf => ?_
       refine S.k hf rfl fun a hf => ?_
       refine S.p hf hs (.bool false) rfl rfl fun a hf => ?_
       refine S.p hf hs (.bool false) rfl rfl fun a hf => ?_
       refine S.k hf rfl fun a hf => ?_
       refine S.p hf hs (.bool false) rfl rfl fun a hf => ?_
       refine S.p hf hs (.bool false) rfl rfl fun a hf => ?_
       refine R.nil (X.then_ (wp_ret ?_))
       exact L.ret hf (run_results1 Tryd.results7 (ResIs.tmp hf rfl)) ⟨false, rfl, h, hs.nil⟩
     | cons xk3 llk3 =>
      have hltk3 := range_lt hkk3; have hc := range_go hkk3; have hxk3 := range_get hlk3
      obtain ⟨next2, hnext2⟩ : ∃ X : Prop, X = (forIn' (fun k x (s : Unit) next => M_law_OrderIsOne_L2 heads Q k x (next ())) (fun (s : Unit) => M_mount_Nozzles b l y9 fun y12 y13 => M_concat_int y9 fun y14 => M_equal_int y14 y1 fun y15 => cnd y15 (cnd (y13 == 0) (M_awake  fun y16 => Q y16) (Q false)) (Q false)) llk3 (k3 + 1) ()) := ⟨_, rfl⟩
      replace h : M_law_OrderIsOne_L2 heads Q k3 xk3  next2 := by rw [hnext2]; exact h
      unfold M_law_OrderIsOne_L2 at h
      refine wp_seq (R.list ?_)
      refine S.v hf hs (.bool true) rfl (V.cmp true rfl rfl rfl rfl hc) fun a hf => ?_
      refine R.nil (X.then_ (wp_seq ?_))
      refine C.yes hf rfl ?_
      refine wp_skip (X.then_ (wp_seq (wp_block (wp_seq (R.list ?_)))))
      refine S.v hf hs (elemPtr y9A (k3 * 1)) rfl (V.index rfl rfl rfl Tryd.runUnderlying61 Tryd.sizeOf48 (hs.rowsSome 0 rfl hxk3) (Int.natCast_nonneg _) (lt_of_get hxk3) rfl) fun a hf => ?_
      obtain ⟨B1, D1, hrB1⟩ := hs.rowAt 0 rfl hxk3
      refine S.v hf hs (.slice B1 xk3.length D1) rfl (V.loadRows (off := 0) 0 rfl hxk3 hrB1 rfl rfl rfl Tryd.isAgg48 Tryd.sizeOf48 rfl rfl) fun a hf => ?_
      refine S.p hf hs (.slice B1 xk3.length D1) rfl rfl fun a hf => ?_
      refine R.nil (X.then_ (wp_seq ?_))
      refine C.cut (J := fun a w => ∃ (c2 : Bool), M_law_OrderIsOne_k4 Q next2 c2 ∧ FrOk 127 [(0, .slice bA b.length bC), (1, .slice lA l.length lC), (2, iv heads), (7, .slice y1A y1.length y1C), (12, .slice y9A y9.length y9C), (93, .slice y9A y9.length y9C), (94, iv (y9.length : Int)), (95, iv (k3 : Int)), (107, .bool c2)] a ∧ Sat w0 none_ [hrows 48 3 y9A y9C y9as y9, hown 3 y1A y1C y1] w) ?_ ?_
      ·rintro a w ⟨c2, h, hf, hs⟩
       unfold M_law_OrderIsOne_k4 at h
       refine C.cond hf (b := c2) rfl (fun hc => ?_) (fun hc => ?_)
       ·replace h := h.1 hc
        refine wp_seq (R.list ?_)
        refine S.p hf hs (.bool false) rfl rfl fun a hf => ?_
        refine R.nil (X.then_ (wp_ret (X.blk_ret (X.then_ret (X.then_ret (X.blk_ret (X.then_ret ?_)))))))
        exact L.ret hf (run_results1 Tryd.results7 (ResIs.tmp hf rfl)) ⟨false, rfl, h, hs.nil⟩
       ·replace h := h.2 hc
        refine wp_skip (X.blk (X.then_ (R.list ?_)))
        refine S.v hf hs (iv ((k3 + 1 : Nat) : Int)) rfl (V.incr rfl rfl rfl hltk3 hlenk3) fun a hf => ?_
        refine S.p hf hs (iv ((k3 + 1 : Nat) : Int)) rfl rfl fun a hf => ?_
        refine R.nil (X.then_ ?_)
        exact ⟨xk3, llk3, rfl, k3 + 1, range_drop hlk3, range_len hkk3, (by rw [hnext2] at h; exact h), ((((((((hf.nil.cons (hf.get 94 _ rfl)).cons (hf.get 93 _ rfl)).cons (hf.get 12 _ rfl)).cons (hf.get 7 _ rfl)).cons (hf.get 2 _ rfl)).cons (hf.get 1 _ rfl)).cons (hf.get 0 _ rfl)).cons (hf.get 95 _ rfl)), hs⟩
      ·skip
       refine R.list ?_
       refine S.p hf hs (.slice B1 xk3.length D1) rfl rfl fun a hf => ?_
       refine S.v hf hs (iv (xk3.length : Int)) rfl (V.len rfl rfl Tryd.runUnderlying48) fun a hf => ?_
       refine S.p hf hs (.bool ((xk3.length : Int) == 0)) rfl rfl fun a hf => ?_
       refine S.split hf hs (b := (xk3.length : Int) == 0) rfl rfl rfl (V.pure rfl) (fun hc a hf => ?_) (fun hc a hf => ?_)
       ·replace h := h.1 hc
        refine S.k hf rfl fun a hf => ?_
        refine S.k hf rfl fun a hf => ?_
        refine S.k hf rfl fun a hf => ?_
        refine S.k hf rfl fun a hf => ?_
        refine S.p hf hs (.bool true) rfl rfl fun a hf => ?_
        refine R.nil (X.then_ ?_)
        exact ⟨true, h, (((((((((hf.nil.cons (hf.get 107 _ rfl)).cons (hf.get 95 _ rfl)).cons (hf.get 94 _ rfl)).cons (hf.get 93 _ rfl)).cons (hf.get 12 _ rfl)).cons (hf.get 7 _ rfl)).cons (hf.get 2 _ rfl)).cons (hf.get 1 _ rfl)).cons (hf.get 0 _ rfl)), hs⟩
       ·replace h := h.2 hc
        refine S.p hf hs (.slice B1 xk3.length D1) rfl rfl fun a hf => ?_
        refine S.v hf hs (iv (xk3.length : Int)) rfl (V.len rfl rfl Tryd.runUnderlying48) fun a hf => ?_
        refine S.p hf hs (iv heads) rfl rfl fun a hf => ?_
        refine S.p hf hs (.bool (decide ((xk3.length : Int) > heads))) rfl rfl fun a hf => ?_
        refine S.p hf hs (.bool (decide ((xk3.length : Int) > heads))) rfl rfl fun a hf => ?_
        refine R.nil (X.then_ ?_)
        exact ⟨(decide ((xk3.length : Int) > heads)), h, (((((((((hf.nil.cons (hf.get 107 _ rfl)).cons (hf.get 95 _ rfl)).cons (hf.get 94 _ rfl)).cons (hf.get 93 _ rfl)).cons (hf.get 12 _ rfl)).cons (hf.get 7 _ rfl)).cons (hf.get 2 _ rfl)).cons (hf.get 1 _ rfl)).cons (hf.get 0 _ rfl)), hs⟩
end Go.Proofs.YtcmlcgjjkccaeaaDoor

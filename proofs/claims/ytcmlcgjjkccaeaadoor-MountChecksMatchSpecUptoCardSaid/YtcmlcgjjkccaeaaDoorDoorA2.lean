/- Chapter 10: what parts take, which collide: the walks. -/
import Derived.Test.YtcmlcgjjkccaeaaDoorDoorA
namespace Go.Proofs.YtcmlcgjjkccaeaaDoor
open Go Go.RowKit
set_option linter.unusedVariables false

set_option linter.unusedVariables false
def M_mount_taken_k1 (p : Place) (Q : Rect → Prop) (n1 : Int) (n2 : Int) : Prop :=
  Q (⟨w64 (p.At.X - (w64 (n1.tdiv 2))), w64 (p.At.Y - (w64 (n2.tdiv 2))), w64 ((w64 (p.At.X - (w64 (n1.tdiv 2)))) + n1), w64 ((w64 (p.At.Y - (w64 (n2.tdiv 2)))) + n2)⟩ : Rect)
def M_mount_taken (b : (List Body)) (p : Place) (Q : Rect → Prop) : Prop :=
  M_mount_bodyOf b p.Typ fun y1 y2 => cnd ((p.Quarters.tmod 2) == 1) (M_mount_taken_k1 p Q y1.H y1.W) (M_mount_taken_k1 p Q y1.W y1.H)
set_option maxHeartbeats 1000000 in
theorem R_mount_taken (b : (List Body)) (p : Place) (w0 : World) (bA : Option Addr) (bC : Nat) (hv_b : View w0 (old w0 none_) bA bC b) (Q : Rect → Prop) (h : M_mount_taken b p Q) :
    Ret Tryd.prog 48 #[.slice bA b.length bC, .agg #[.string (ba p.Part), .string (ba p.Typ), .int .i64 p.At.X, .int .i64 p.At.Y, .int .i64 p.Quarters, .bool p.Below]] w0 fun v w' => ∃ (r0 : Rect), v = .agg #[.int .i64 r0.X0, .int .i64 r0.Y0, .int .i64 r0.X1, .int .i64 r0.Y1] ∧ Q r0 ∧ Sat w0 none_ [] w' := by
  refine fn_enter Tryd.func48 rfl Tryd.ntmps48 rfl (fs := [(0, .slice bA b.length bC), (1, .agg #[.string (ba p.Part), .string (ba p.Typ), .int .i64 p.At.X, .int .i64 p.At.Y, .int .i64 p.Quarters, .bool p.Below])]) rfl (fun a hf => ?_)
  have hs := Sat.start w0 none_
  unfold M_mount_taken at h
  refine wp_seq ?_
  refine R.list ?_
  refine S.box hf hs rfl rfl rfl [.string (ba p.Part), .string (ba p.Typ), .int .i64 p.At.X, .int .i64 p.At.Y, .int .i64 p.Quarters, .bool p.Below] rfl rfl rfl (fun g1 a w hf hs => ?_)
  refine S.alloc hf hs rfl rfl rfl [.int .i64 0, .int .i64 0, .int .i64 0, .int .i64 0] rfl Tryd.zeroValue39 rfl (fun g2 a w hf hs => ?_)
  refine R.nil ?_
  refine X.then_ ?_
  refine wp_seq ?_
  refine R.list ?_
  refine S.val hf hs (v := .slice bA b.length bC) rfl rfl rfl (V.pure rfl) (fun a hf => ?_)
  refine S.val hf hs (v := .pointer (some ⟨g1, 1, none⟩)) rfl rfl rfl (V.fieldBox rfl rfl Tryd.runUnderlying28 rfl Tryd.sizeOf9 rfl rfl) (fun a hf => ?_)
  refine S.val hf hs (v := .string (ba p.Typ)) rfl rfl rfl (V.loadBox 1 rfl rfl rfl Tryd.isAgg9 Tryd.sizeOf9 rfl rfl) (fun a hf => ?_)
  refine S.call hf rfl rfl rfl (call_fn (vs := [.slice bA b.length bC, .string (ba p.Typ)]) rfl rfl rfl Tryd.call61) (R_mount_bodyOf b p.Typ _ bA bC ((Ag.args _ _ _).view hv_b hs) _ h) (fun v a w' hf hr => ?_)
  obtain ⟨y1, y2, rfl, h2, hs2⟩ := hr
  replace h := h2; replace hs := hs.call hs2; clear h2 hs2
  refine S.val hf hs (v := .tuple #[.agg #[.string (ba y1.Typ), .int .i64 y1.W, .int .i64 y1.H, .int .i64 y1.Tall, .string (ba y1.Nozzle)], .bool y2]) rfl rfl rfl (V.pure rfl) (fun a hf => ?_)
  refine S.val hf hs (v := .agg #[.string (ba y1.Typ), .int .i64 y1.W, .int .i64 y1.H, .int .i64 y1.Tall, .string (ba y1.Nozzle)]) rfl rfl rfl (V.pure rfl) (fun a hf => ?_)
  refine S.val hf hs (v := .bool y2) rfl rfl rfl (V.pure rfl) (fun a hf => ?_)
  refine S.alloc hf hs rfl rfl rfl [.string (ba []), .int .i64 0, .int .i64 0, .int .i64 0, .string (ba [])] rfl Tryd.zeroValue95 rfl (fun g3 a w hf hs => ?_)
  refine S.storeBox 0 hf hs rfl rfl [.string (ba y1.Typ), .int .i64 y1.W, .int .i64 y1.H, .int .i64 y1.Tall, .string (ba y1.Nozzle)] [.string (ba y1.Typ), .int .i64 y1.W, .int .i64 y1.H, .int .i64 y1.Tall, .string (ba y1.Nozzle)] rfl rfl rfl rfl rfl Tryd.sizeOf95 rfl rfl rfl rfl (fun a w hf hs => ?_)
  refine S.val hf hs (v := .bool y2) rfl rfl rfl (V.pure rfl) (fun a hf => ?_)
  refine R.nil ?_
  refine X.then_ ?_
  refine wp_seq ?_
  refine R.draw mo (by kernel_rfl) hs ?_
  refine D.val hf (v := .pointer (some ⟨g3, 1, none⟩)) rfl rfl rfl (V.fieldBox rfl rfl Tryd.runUnderlying95 rfl Tryd.sizeOf3 rfl rfl) (fun a hf => ?_)
  refine D.val hf (v := .int .i64 y1.W) rfl rfl rfl (V.loadBox 0 rfl rfl rfl Tryd.isAgg3 Tryd.sizeOf3 rfl rfl) (fun a hf => ?_)
  refine D.val hf (v := .pointer (some ⟨g3, 2, none⟩)) rfl rfl rfl (V.fieldBox rfl rfl Tryd.runUnderlying95 rfl Tryd.sizeOf3 rfl rfl) (fun a hf => ?_)
  refine D.val hf (v := .int .i64 y1.H) rfl rfl rfl (V.loadBox 0 rfl rfl rfl Tryd.isAgg3 Tryd.sizeOf3 rfl rfl) (fun a hf => ?_)
  refine D.val hf (v := .int .i64 y1.W) rfl rfl rfl (V.pure rfl) (fun a hf => ?_)
  refine D.val hf (v := .int .i64 y1.H) rfl rfl rfl (V.pure rfl) (fun a hf => ?_)
  refine D.done (fun w hs => ?_)
  refine X.then_ ?_
  refine wp_seq ?_
  refine C.cut (J := fun a w => ∃ (n1 : Int) (n2 : Int), M_mount_taken_k1 p Q n1 n2 ∧ FrOk 49 [(3, .pointer (some ⟨g1, 0, none⟩)), (4, .pointer (some ⟨g2, 0, none⟩)), (7, .int .i64 n1), (8, .int .i64 n2)] a ∧ Sat w0 none_ [hbox g3 95 [.string (ba y1.Typ), .int .i64 y1.W, .int .i64 y1.H, .int .i64 y1.Tall, .string (ba y1.Nozzle)], hbox g2 39 [.int .i64 0, .int .i64 0, .int .i64 0, .int .i64 0], hbox g1 28 [.string (ba p.Part), .string (ba p.Typ), .int .i64 p.At.X, .int .i64 p.At.Y, .int .i64 p.Quarters, .bool p.Below]] w) ?_ ?_
  · rintro a w ⟨n1, n2, h, hf, hs⟩
    unfold M_mount_taken_k1 at h
    refine wp_seq ?_
    refine R.draw mo (by kernel_rfl) hs ?_
    refine D.val hf (v := .pointer (some ⟨g1, 2, none⟩)) rfl rfl rfl (V.fieldBox rfl rfl Tryd.runUnderlying28 rfl Tryd.sizeOf25 rfl rfl) (fun a hf => ?_)
    refine D.val hf (v := .pointer (some ⟨g1, 2, none⟩)) rfl rfl rfl (V.fieldBox rfl rfl Tryd.runUnderlying25 rfl Tryd.sizeOf3 rfl rfl) (fun a hf => ?_)
    refine D.val hf (v := .int .i64 p.At.X) rfl rfl rfl (V.loadBox 2 rfl rfl rfl Tryd.isAgg3 Tryd.sizeOf3 rfl rfl) (fun a hf => ?_)
    refine D.val hf (v := .int .i64 n1) rfl rfl rfl (V.pure rfl) (fun a hf => ?_)
    refine D.val hf (v := .int .i64 (w64 (n1.tdiv 2))) rfl rfl rfl (V.quo rfl rfl rfl (by decide)) (fun a hf => ?_)
    refine D.val hf (v := .int .i64 (w64 (p.At.X - (w64 (n1.tdiv 2))))) rfl rfl rfl (V.pure rfl) (fun a hf => ?_)
    refine D.val hf (v := .pointer (some ⟨g1, 2, none⟩)) rfl rfl rfl (V.fieldBox rfl rfl Tryd.runUnderlying28 rfl Tryd.sizeOf25 rfl rfl) (fun a hf => ?_)
    refine D.val hf (v := .pointer (some ⟨g1, 3, none⟩)) rfl rfl rfl (V.fieldBox rfl rfl Tryd.runUnderlying25 rfl Tryd.sizeOf3 rfl rfl) (fun a hf => ?_)
    refine D.val hf (v := .int .i64 p.At.Y) rfl rfl rfl (V.loadBox 2 rfl rfl rfl Tryd.isAgg3 Tryd.sizeOf3 rfl rfl) (fun a hf => ?_)
    refine D.val hf (v := .int .i64 n2) rfl rfl rfl (V.pure rfl) (fun a hf => ?_)
    refine D.val hf (v := .int .i64 (w64 (n2.tdiv 2))) rfl rfl rfl (V.quo rfl rfl rfl (by decide)) (fun a hf => ?_)
    refine D.val hf (v := .int .i64 (w64 (p.At.Y - (w64 (n2.tdiv 2))))) rfl rfl rfl (V.pure rfl) (fun a hf => ?_)
    refine D.val hf (v := .int .i64 (w64 (p.At.X - (w64 (n1.tdiv 2))))) rfl rfl rfl (V.pure rfl) (fun a hf => ?_)
    refine D.val hf (v := .int .i64 (w64 (p.At.Y - (w64 (n2.tdiv 2))))) rfl rfl rfl (V.pure rfl) (fun a hf => ?_)
    refine D.done (fun w hs => ?_)
    refine X.then_ ?_
    refine wp_seq ?_
    refine R.list ?_
    refine S.val hf hs (v := .int .i64 (w64 (p.At.X - (w64 (n1.tdiv 2))))) rfl rfl rfl (V.pure rfl) (fun a hf => ?_)
    refine S.val hf hs (v := .int .i64 (w64 (p.At.Y - (w64 (n2.tdiv 2))))) rfl rfl rfl (V.pure rfl) (fun a hf => ?_)
    refine S.val hf hs (v := .int .i64 (w64 (p.At.X - (w64 (n1.tdiv 2))))) rfl rfl rfl (V.pure rfl) (fun a hf => ?_)
    refine S.val hf hs (v := .int .i64 n1) rfl rfl rfl (V.pure rfl) (fun a hf => ?_)
    refine S.val hf hs (v := .int .i64 (w64 ((w64 (p.At.X - (w64 (n1.tdiv 2)))) + n1))) rfl rfl rfl (V.pure rfl) (fun a hf => ?_)
    refine S.val hf hs (v := .int .i64 (w64 (p.At.Y - (w64 (n2.tdiv 2))))) rfl rfl rfl (V.pure rfl) (fun a hf => ?_)
    refine S.val hf hs (v := .int .i64 n2) rfl rfl rfl (V.pure rfl) (fun a hf => ?_)
    refine S.val hf hs (v := .int .i64 (w64 ((w64 (p.At.Y - (w64 (n2.tdiv 2)))) + n2))) rfl rfl rfl (V.pure rfl) (fun a hf => ?_)
    refine S.val hf hs (v := .agg #[.int .i64 (w64 (p.At.X - (w64 (n1.tdiv 2)))), .int .i64 (w64 (p.At.Y - (w64 (n2.tdiv 2)))), .int .i64 (w64 ((w64 (p.At.X - (w64 (n1.tdiv 2)))) + n1)), .int .i64 (w64 ((w64 (p.At.Y - (w64 (n2.tdiv 2)))) + n2))]) rfl rfl rfl (V.build (places := #[(0, 1), (1, 1), (2, 1), (3, 1)]) rfl Tryd.zeroValue39 Tryd.runUnderlying39 (by intro w; simp [Tryd.sizeOf3]) rfl rfl) (fun a hf => ?_)
    refine S.storeBox 1 hf hs rfl rfl [.int .i64 (w64 (p.At.X - (w64 (n1.tdiv 2)))), .int .i64 (w64 (p.At.Y - (w64 (n2.tdiv 2)))), .int .i64 (w64 ((w64 (p.At.X - (w64 (n1.tdiv 2)))) + n1)), .int .i64 (w64 ((w64 (p.At.Y - (w64 (n2.tdiv 2)))) + n2))] [.int .i64 (w64 (p.At.X - (w64 (n1.tdiv 2)))), .int .i64 (w64 (p.At.Y - (w64 (n2.tdiv 2)))), .int .i64 (w64 ((w64 (p.At.X - (w64 (n1.tdiv 2)))) + n1)), .int .i64 (w64 ((w64 (p.At.Y - (w64 (n2.tdiv 2)))) + n2))] rfl rfl rfl rfl rfl Tryd.sizeOf39 rfl rfl rfl rfl (fun a w hf hs => ?_)
    refine R.nil ?_
    refine X.then_ ?_
    refine wp_ret ?_
    exact L.ret hf (run_results1 Tryd.results48 (ResIs.box hf hs 1 rfl rfl Tryd.isAgg39 Tryd.sizeOf39 rfl rfl)) ⟨(⟨w64 (p.At.X - (w64 (n1.tdiv 2))), w64 (p.At.Y - (w64 (n2.tdiv 2))), w64 ((w64 (p.At.X - (w64 (n1.tdiv 2)))) + n1), w64 ((w64 (p.At.Y - (w64 (n2.tdiv 2)))) + n2)⟩ : Rect), rfl, h, hs.nil⟩
  · skip
    refine wp_seq ?_
    refine R.list ?_
    refine S.val hf hs (v := .pointer (some ⟨g1, 4, none⟩)) rfl rfl rfl (V.fieldBox rfl rfl Tryd.runUnderlying28 rfl Tryd.sizeOf3 rfl rfl) (fun a hf => ?_)
    refine S.val hf hs (v := .int .i64 p.Quarters) rfl rfl rfl (V.loadBox 2 rfl rfl rfl Tryd.isAgg3 Tryd.sizeOf3 rfl rfl) (fun a hf => ?_)
    refine S.val hf hs (v := .int .i64 (p.Quarters.tmod 2)) rfl rfl rfl (V.rem rfl rfl rfl (by decide)) (fun a hf => ?_)
    refine S.val hf hs (v := .bool ((p.Quarters.tmod 2) == 1)) rfl rfl rfl (V.pure rfl) (fun a hf => ?_)
    refine R.nil ?_
    refine X.then_ ?_
    refine C.cond hf (b := (p.Quarters.tmod 2) == 1) rfl (fun hc => ?_) (fun hc => ?_)
    · replace h := h.1 hc
      refine R.list ?_
      refine S.val hf hs (v := .int .i64 y1.H) rfl rfl rfl (V.pure rfl) (fun a hf => ?_)
      refine S.val hf hs (v := .int .i64 y1.W) rfl rfl rfl (V.pure rfl) (fun a hf => ?_)
      refine S.val hf hs (v := .int .i64 y1.H) rfl rfl rfl (V.pure rfl) (fun a hf => ?_)
      refine S.val hf hs (v := .int .i64 y1.W) rfl rfl rfl (V.pure rfl) (fun a hf => ?_)
      refine R.nil ?_
      refine X.then_ ?_
      exact ⟨y1.H, y1.W, h, ((((hf.nil.cons (hf.get 8 _ rfl)).cons (hf.get 7 _ rfl)).cons (hf.get 4 _ rfl)).cons (hf.get 3 _ rfl)), hs⟩
    · replace h := h.2 hc
      refine wp_skip ?_
      refine X.then_ ?_
      exact ⟨y1.W, y1.H, h, ((((hf.nil.cons (hf.get 8 _ rfl)).cons (hf.get 7 _ rfl)).cons (hf.get 4 _ rfl)).cons (hf.get 3 _ rfl)), hs⟩

set_option linter.unusedVariables false
def M_ref10_floorHalf (n : Int) (Q : Int → Prop) : Prop :=
  Q (w64 (n.tdiv 2))
set_option maxHeartbeats 1000000 in
theorem R_ref10_floorHalf (n : Int) (w0 : World)  (Q : Int → Prop) (h : M_ref10_floorHalf n Q) :
    Ret Tryd.prog 83 #[.int .i64 n] w0 fun v w' => ∃ (r0 : Int), v = .int .i64 r0 ∧ Q r0 ∧ Sat w0 none_ [] w' := by
  refine fn_enter Tryd.func83 rfl Tryd.ntmps83 rfl (fs := [(0, .int .i64 n)]) rfl (fun a hf => ?_)
  have hs := Sat.start w0 none_
  unfold M_ref10_floorHalf at h
  refine wp_seq ?_
  refine R.list ?_
  refine S.val hf hs (v := .int .i64 0) rfl rfl rfl (V.pure rfl) (fun a hf => ?_)
  refine R.nil ?_
  refine X.then_ ?_
  refine wp_seq ?_
  refine R.list ?_
  refine S.val hf hs (v := .int .i64 n) rfl rfl rfl (V.pure rfl) (fun a hf => ?_)
  refine S.val hf hs (v := .int .i64 (w64 (n.tdiv 2))) rfl rfl rfl (V.quo rfl rfl rfl (by decide)) (fun a hf => ?_)
  refine S.val hf hs (v := .int .i64 (w64 (n.tdiv 2))) rfl rfl rfl (V.pure rfl) (fun a hf => ?_)
  refine R.nil ?_
  refine X.then_ ?_
  refine wp_ret ?_
  exact L.ret hf (run_results1 Tryd.results83 (ResIs.tmp hf rfl)) ⟨(w64 (n.tdiv 2)), rfl, h, hs.nil⟩

def half (n : Int) : Int := w64 (n.tdiv 2)
theorem E_ref10_floorHalf (n : Int) : M_ref10_floorHalf n (· = half n) := rfl
theorem C_ref10_floorHalf (n : Int) (w0 : World)  : Ret Tryd.prog 83 #[.int .i64 n] w0 fun v w' => v = .int .i64 (half n) ∧ Sat w0 none_ [] w' :=
  (R_ref10_floorHalf n w0  (· = (half n)) (E_ref10_floorHalf n)).mono fun v w' ⟨r0, hv, hr, hs⟩ => ⟨by subst hr; exact hv, hs⟩

set_option linter.unusedVariables false
def M_ref10_taken_k1 (p : Place) (Q : Rect → Prop) (n1 : Int) (n2 : Int) : Prop :=
  Q (⟨w64 (p.At.X - (half n1)), w64 (p.At.Y - (half n2)), w64 ((w64 (p.At.X - (half n1))) + n1), w64 ((w64 (p.At.Y - (half n2))) + n2)⟩ : Rect)
def M_ref10_taken (b : (List Body)) (p : Place) (Q : Rect → Prop) : Prop :=
  M_ref10_bodyOf b p.Typ fun y1 => idx b y1 fun x1 => cnd ((p.Quarters.tmod 2) == 1) (M_ref10_taken_k1 p Q x1.H x1.W) (M_ref10_taken_k1 p Q x1.W x1.H)
set_option maxHeartbeats 1000000 in
theorem R_ref10_taken (b : (List Body)) (p : Place) (w0 : World) (bA : Option Addr) (bC : Nat) (hv_b : View w0 (old w0 none_) bA bC b) (Q : Rect → Prop) (h : M_ref10_taken b p Q) :
    Ret Tryd.prog 50 #[.slice bA b.length bC, .agg #[.string (ba p.Part), .string (ba p.Typ), .int .i64 p.At.X, .int .i64 p.At.Y, .int .i64 p.Quarters, .bool p.Below]] w0 fun v w' => ∃ (r0 : Rect), v = .agg #[.int .i64 r0.X0, .int .i64 r0.Y0, .int .i64 r0.X1, .int .i64 r0.Y1] ∧ Q r0 ∧ Sat w0 none_ [] w' := by
  refine fn_enter Tryd.func50 rfl Tryd.ntmps50 rfl (fs := [(0, .slice bA b.length bC), (1, .agg #[.string (ba p.Part), .string (ba p.Typ), .int .i64 p.At.X, .int .i64 p.At.Y, .int .i64 p.Quarters, .bool p.Below])]) rfl (fun a hf => ?_)
  have hs := Sat.start w0 none_
  unfold M_ref10_taken at h
  refine wp_seq ?_
  refine R.list ?_
  refine S.box hf hs rfl rfl rfl [.string (ba p.Part), .string (ba p.Typ), .int .i64 p.At.X, .int .i64 p.At.Y, .int .i64 p.Quarters, .bool p.Below] rfl rfl rfl (fun g1 a w hf hs => ?_)
  refine S.alloc hf hs rfl rfl rfl [.int .i64 0, .int .i64 0, .int .i64 0, .int .i64 0] rfl Tryd.zeroValue39 rfl (fun g2 a w hf hs => ?_)
  refine R.nil ?_
  refine X.then_ ?_
  refine wp_seq ?_
  refine R.list ?_
  refine S.val hf hs (v := .slice bA b.length bC) rfl rfl rfl (V.pure rfl) (fun a hf => ?_)
  refine S.val hf hs (v := .slice bA b.length bC) rfl rfl rfl (V.pure rfl) (fun a hf => ?_)
  refine S.val hf hs (v := .pointer (some ⟨g1, 1, none⟩)) rfl rfl rfl (V.fieldBox rfl rfl Tryd.runUnderlying28 rfl Tryd.sizeOf9 rfl rfl) (fun a hf => ?_)
  refine S.val hf hs (v := .string (ba p.Typ)) rfl rfl rfl (V.loadBox 1 rfl rfl rfl Tryd.isAgg9 Tryd.sizeOf9 rfl rfl) (fun a hf => ?_)
  refine S.call hf rfl rfl rfl (call_fn (vs := [.slice bA b.length bC, .string (ba p.Typ)]) rfl rfl rfl Tryd.call66) (R_ref10_bodyOf b p.Typ _ bA bC ((Ag.args _ _ _).view hv_b hs) _ h) (fun v a w' hf hr => ?_)
  obtain ⟨y1, rfl, h2, hs2⟩ := hr
  replace h := h2; replace hs := hs.call hs2; clear h2 hs2
  obtain ⟨h0x1, x1, hx1, h⟩ := h
  refine S.val hf hs (v := elemPtr bA (y1.toNat * 5)) rfl rfl rfl (V.index rfl rfl rfl Tryd.runUnderlying22 Tryd.sizeOf95 (hv_b.some_ (lt_of_get hx1)) h0x1 (lt_of_get hx1) rfl) (fun a hf => ?_)
  refine S.val hf hs (v := .agg #[.string (ba x1.Typ), .int .i64 x1.W, .int .i64 x1.H, .int .i64 x1.Tall, .string (ba x1.Nozzle)]) rfl rfl rfl (V.loadEl (off := 0) (Ag.args _ _ _) (hv_b.flat hx1) rfl rfl rfl Tryd.isAgg95 Tryd.sizeOf95 rfl rfl) (fun a hf => ?_)
  refine S.alloc hf hs rfl rfl rfl [.string (ba []), .int .i64 0, .int .i64 0, .int .i64 0, .string (ba [])] rfl Tryd.zeroValue95 rfl (fun g3 a w hf hs => ?_)
  refine S.storeBox 0 hf hs rfl rfl [.string (ba x1.Typ), .int .i64 x1.W, .int .i64 x1.H, .int .i64 x1.Tall, .string (ba x1.Nozzle)] [.string (ba x1.Typ), .int .i64 x1.W, .int .i64 x1.H, .int .i64 x1.Tall, .string (ba x1.Nozzle)] rfl rfl rfl rfl rfl Tryd.sizeOf95 rfl rfl rfl rfl (fun a w hf hs => ?_)
  refine R.nil ?_
  refine X.then_ ?_
  refine wp_seq ?_
  refine R.draw mo (by kernel_rfl) hs ?_
  refine D.val hf (v := .pointer (some ⟨g3, 1, none⟩)) rfl rfl rfl (V.fieldBox rfl rfl Tryd.runUnderlying95 rfl Tryd.sizeOf3 rfl rfl) (fun a hf => ?_)
  refine D.val hf (v := .int .i64 x1.W) rfl rfl rfl (V.loadBox 0 rfl rfl rfl Tryd.isAgg3 Tryd.sizeOf3 rfl rfl) (fun a hf => ?_)
  refine D.val hf (v := .pointer (some ⟨g3, 2, none⟩)) rfl rfl rfl (V.fieldBox rfl rfl Tryd.runUnderlying95 rfl Tryd.sizeOf3 rfl rfl) (fun a hf => ?_)
  refine D.val hf (v := .int .i64 x1.H) rfl rfl rfl (V.loadBox 0 rfl rfl rfl Tryd.isAgg3 Tryd.sizeOf3 rfl rfl) (fun a hf => ?_)
  refine D.val hf (v := .int .i64 x1.W) rfl rfl rfl (V.pure rfl) (fun a hf => ?_)
  refine D.val hf (v := .int .i64 x1.H) rfl rfl rfl (V.pure rfl) (fun a hf => ?_)
  refine D.done (fun w hs => ?_)
  refine X.then_ ?_
  refine wp_seq ?_
  refine C.cut (J := fun a w => ∃ (n1 : Int) (n2 : Int), M_ref10_taken_k1 p Q n1 n2 ∧ FrOk 50 [(3, .pointer (some ⟨g1, 0, none⟩)), (4, .pointer (some ⟨g2, 0, none⟩)), (6, .int .i64 n1), (7, .int .i64 n2)] a ∧ Sat w0 none_ [hbox g3 95 [.string (ba x1.Typ), .int .i64 x1.W, .int .i64 x1.H, .int .i64 x1.Tall, .string (ba x1.Nozzle)], hbox g2 39 [.int .i64 0, .int .i64 0, .int .i64 0, .int .i64 0], hbox g1 28 [.string (ba p.Part), .string (ba p.Typ), .int .i64 p.At.X, .int .i64 p.At.Y, .int .i64 p.Quarters, .bool p.Below]] w) ?_ ?_
  · rintro a w ⟨n1, n2, h, hf, hs⟩
    unfold M_ref10_taken_k1 at h
    refine wp_seq ?_
    refine H.start (S := Sat w0 none_ [hbox g3 95 [.string (ba x1.Typ), .int .i64 x1.W, .int .i64 x1.H, .int .i64 x1.Tall, .string (ba x1.Nozzle)], hbox g2 39 [.int .i64 0, .int .i64 0, .int .i64 0, .int .i64 0], hbox g1 28 [.string (ba p.Part), .string (ba p.Typ), .int .i64 p.At.X, .int .i64 p.At.Y, .int .i64 p.Quarters, .bool p.Below]]) mo ?_
    replace hs := hs.drew
    refine H.val hf hs (v := .pointer (some ⟨g1, 2, none⟩)) (i := 0) rfl rfl rfl rfl (by kernel_rfl) (by kernel_rfl) (by kernel_rfl) (V.fieldBox rfl rfl Tryd.runUnderlying28 rfl Tryd.sizeOf25 rfl rfl) (fun a hf => ?_)
    refine H.val hf hs (v := .pointer (some ⟨g1, 2, none⟩)) (i := 1) rfl rfl rfl rfl (by kernel_rfl) (by kernel_rfl) (by kernel_rfl) (V.fieldBox rfl rfl Tryd.runUnderlying25 rfl Tryd.sizeOf3 rfl rfl) (fun a hf => ?_)
    refine H.val hf hs (v := .int .i64 p.At.X) (i := 2) rfl rfl rfl rfl (by kernel_rfl) (by kernel_rfl) (by kernel_rfl) (V.loadBox 2 rfl rfl rfl Tryd.isAgg3 Tryd.sizeOf3 rfl rfl) (fun a hf => ?_)
    refine H.val hf hs (v := .int .i64 n1) (i := 3) rfl rfl rfl rfl (by kernel_rfl) (by kernel_rfl) (by kernel_rfl) (V.pure rfl) (fun a hf => ?_)
    refine H.val hf hs (v := .pointer (some ⟨g1, 2, none⟩)) (i := 6) rfl rfl rfl rfl (by kernel_rfl) (by kernel_rfl) (by kernel_rfl) (V.fieldBox rfl rfl Tryd.runUnderlying28 rfl Tryd.sizeOf25 rfl rfl) (fun a hf => ?_)
    refine H.val hf hs (v := .pointer (some ⟨g1, 3, none⟩)) (i := 7) rfl rfl rfl rfl (by kernel_rfl) (by kernel_rfl) (by kernel_rfl) (V.fieldBox rfl rfl Tryd.runUnderlying25 rfl Tryd.sizeOf3 rfl rfl) (fun a hf => ?_)
    refine H.val hf hs (v := .int .i64 p.At.Y) (i := 8) rfl rfl rfl rfl (by kernel_rfl) (by kernel_rfl) (by kernel_rfl) (V.loadBox 2 rfl rfl rfl Tryd.isAgg3 Tryd.sizeOf3 rfl rfl) (fun a hf => ?_)
    refine H.val hf hs (v := .int .i64 n2) (i := 9) rfl rfl rfl rfl (by kernel_rfl) (by kernel_rfl) (by kernel_rfl) (V.pure rfl) (fun a hf => ?_)
    refine H.each2 (i0 := 4) (i1 := 13) rfl rfl (by kernel_rfl) ?_ ?_
    · refine S.callv hf rfl rfl rfl (call_fn (vs := [.int .i64 n1]) rfl rfl rfl Tryd.call83) (C_ref10_floorHalf n1 _ ) (fun a w hf hs' => ?_)
      replace hs := hs.call hs'; clear hs'
      refine R.nil ?_
      refine X.then_ ?_
      refine ⟨hs, ?_⟩
      refine H.val hf hs (v := .int .i64 (w64 (p.At.X - (half n1)))) (i := 5) rfl rfl rfl rfl (by kernel_rfl) (by kernel_rfl) (by kernel_rfl) (V.pure rfl) (fun a hf => ?_)
      refine H.each2 (i0 := 10) (i1 := 13) rfl rfl (by kernel_rfl) ?_ ?_
      · refine S.callv hf rfl rfl rfl (call_fn (vs := [.int .i64 n2]) rfl rfl rfl Tryd.call83) (C_ref10_floorHalf n2 _ ) (fun a w hf hs' => ?_)
        replace hs := hs.call hs'; clear hs'
        refine R.nil ?_
        refine X.then_ ?_
        refine ⟨hs, ?_⟩
        refine H.val hf hs (v := .int .i64 (w64 (p.At.Y - (half n2)))) (i := 11) rfl rfl rfl rfl (by kernel_rfl) (by kernel_rfl) (by kernel_rfl) (V.pure rfl) (fun a hf => ?_)
        refine H.each2 (i0 := 12) (i1 := 13) rfl rfl (by kernel_rfl) ?_ ?_
        · refine S.val hf hs (v := .agg #[.int .i64 (w64 (p.At.X - (half n1))), .int .i64 (w64 (p.At.Y - (half n2))), .int .i64 0, .int .i64 0]) rfl rfl rfl (V.build (places := #[(0, 1), (1, 1), (2, 1), (3, 1)]) rfl Tryd.zeroValue39 Tryd.runUnderlying39 (by intro w; simp [Tryd.sizeOf3]) rfl rfl) (fun a hf => ?_)
          refine R.nil ?_
          refine X.then_ ?_
          refine ⟨hs, ?_⟩
          refine H.one (i := 13) rfl (by kernel_rfl) ?_
          refine S.alloc hf hs rfl rfl rfl [.int .i64 0, .int .i64 0, .int .i64 0, .int .i64 0] rfl Tryd.zeroValue39 rfl (fun g4 a w hf hs => ?_)
          refine R.nil ?_
          refine X.then_ ?_
          refine ⟨(hs.mask [false, true, true, true]), ?_⟩
          refine H.one (i := 14) rfl (by kernel_rfl) ?_
          refine S.storeBox 0 hf hs rfl rfl [.int .i64 (w64 (p.At.X - (half n1))), .int .i64 (w64 (p.At.Y - (half n2))), .int .i64 0, .int .i64 0] [.int .i64 (w64 (p.At.X - (half n1))), .int .i64 (w64 (p.At.Y - (half n2))), .int .i64 0, .int .i64 0] rfl rfl rfl rfl rfl Tryd.sizeOf39 rfl rfl rfl rfl (fun a w hf hs => ?_)
          refine R.nil ?_
          refine X.then_ ?_
          refine ⟨(hs.mask [false, true, true, true]), ?_⟩
          refine H.done (by kernel_rfl) ?_
          refine X.then_ ?_
          refine wp_seq ?_
          refine R.list ?_
          refine S.val hf hs (v := .pointer (some ⟨g4, 0, none⟩)) rfl rfl rfl (V.fieldBox rfl rfl Tryd.runUnderlying39 rfl Tryd.sizeOf3 rfl rfl) (fun a hf => ?_)
          refine S.val hf hs (v := .int .i64 (w64 (p.At.X - (half n1)))) rfl rfl rfl (V.loadBox 0 rfl rfl rfl Tryd.isAgg3 Tryd.sizeOf3 rfl rfl) (fun a hf => ?_)
          refine S.val hf hs (v := .int .i64 n1) rfl rfl rfl (V.pure rfl) (fun a hf => ?_)
          refine S.val hf hs (v := .int .i64 (w64 ((w64 (p.At.X - (half n1))) + n1))) rfl rfl rfl (V.pure rfl) (fun a hf => ?_)
          refine S.val hf hs (v := .pointer (some ⟨g4, 1, none⟩)) rfl rfl rfl (V.fieldBox rfl rfl Tryd.runUnderlying39 rfl Tryd.sizeOf3 rfl rfl) (fun a hf => ?_)
          refine S.val hf hs (v := .int .i64 (w64 (p.At.Y - (half n2)))) rfl rfl rfl (V.loadBox 0 rfl rfl rfl Tryd.isAgg3 Tryd.sizeOf3 rfl rfl) (fun a hf => ?_)
          refine S.val hf hs (v := .int .i64 n2) rfl rfl rfl (V.pure rfl) (fun a hf => ?_)
          refine S.val hf hs (v := .int .i64 (w64 ((w64 (p.At.Y - (half n2))) + n2))) rfl rfl rfl (V.pure rfl) (fun a hf => ?_)
          refine S.val hf hs (v := .pointer (some ⟨g4, 2, none⟩)) rfl rfl rfl (V.fieldBox rfl rfl Tryd.runUnderlying39 rfl Tryd.sizeOf3 rfl rfl) (fun a hf => ?_)
          refine S.storeBox 0 hf hs rfl rfl [.int .i64 (w64 ((w64 (p.At.X - (half n1))) + n1))] [.int .i64 (w64 (p.At.X - (half n1))), .int .i64 (w64 (p.At.Y - (half n2))), .int .i64 (w64 ((w64 (p.At.X - (half n1))) + n1)), .int .i64 0] rfl rfl rfl rfl rfl Tryd.sizeOf3 rfl rfl rfl rfl (fun a w hf hs => ?_)
          refine S.val hf hs (v := .pointer (some ⟨g4, 3, none⟩)) rfl rfl rfl (V.fieldBox rfl rfl Tryd.runUnderlying39 rfl Tryd.sizeOf3 rfl rfl) (fun a hf => ?_)
          refine S.storeBox 0 hf hs rfl rfl [.int .i64 (w64 ((w64 (p.At.Y - (half n2))) + n2))] [.int .i64 (w64 (p.At.X - (half n1))), .int .i64 (w64 (p.At.Y - (half n2))), .int .i64 (w64 ((w64 (p.At.X - (half n1))) + n1)), .int .i64 (w64 ((w64 (p.At.Y - (half n2))) + n2))] rfl rfl rfl rfl rfl Tryd.sizeOf3 rfl rfl rfl rfl (fun a w hf hs => ?_)
          refine R.nil ?_
          refine X.then_ ?_
          refine wp_seq ?_
          refine R.list ?_
          refine S.val hf hs (v := .agg #[.int .i64 (w64 (p.At.X - (half n1))), .int .i64 (w64 (p.At.Y - (half n2))), .int .i64 (w64 ((w64 (p.At.X - (half n1))) + n1)), .int .i64 (w64 ((w64 (p.At.Y - (half n2))) + n2))]) rfl rfl rfl (V.loadBox 0 rfl rfl rfl Tryd.isAgg39 Tryd.sizeOf39 rfl rfl) (fun a hf => ?_)
          refine S.storeBox 2 hf hs rfl rfl [.int .i64 (w64 (p.At.X - (half n1))), .int .i64 (w64 (p.At.Y - (half n2))), .int .i64 (w64 ((w64 (p.At.X - (half n1))) + n1)), .int .i64 (w64 ((w64 (p.At.Y - (half n2))) + n2))] [.int .i64 (w64 (p.At.X - (half n1))), .int .i64 (w64 (p.At.Y - (half n2))), .int .i64 (w64 ((w64 (p.At.X - (half n1))) + n1)), .int .i64 (w64 ((w64 (p.At.Y - (half n2))) + n2))] rfl rfl rfl rfl rfl Tryd.sizeOf39 rfl rfl rfl rfl (fun a w hf hs => ?_)
          refine R.nil ?_
          refine X.then_ ?_
          refine wp_ret ?_
          exact L.ret hf (run_results1 Tryd.results50 (ResIs.box hf hs 2 rfl rfl Tryd.isAgg39 Tryd.sizeOf39 rfl rfl)) ⟨(⟨w64 (p.At.X - (half n1)), w64 (p.At.Y - (half n2)), w64 ((w64 (p.At.X - (half n1))) + n1), w64 ((w64 (p.At.Y - (half n2))) + n2)⟩ : Rect), rfl, h, hs.nil⟩
        · refine S.alloc hf hs rfl rfl rfl [.int .i64 0, .int .i64 0, .int .i64 0, .int .i64 0] rfl Tryd.zeroValue39 rfl (fun g4 a w hf hs => ?_)
          refine R.nil ?_
          refine X.then_ ?_
          refine ⟨(hs.mask [false, true, true, true]), ?_⟩
          refine H.one (i := 12) rfl (by kernel_rfl) ?_
          refine S.val hf hs (v := .agg #[.int .i64 (w64 (p.At.X - (half n1))), .int .i64 (w64 (p.At.Y - (half n2))), .int .i64 0, .int .i64 0]) rfl rfl rfl (V.build (places := #[(0, 1), (1, 1), (2, 1), (3, 1)]) rfl Tryd.zeroValue39 Tryd.runUnderlying39 (by intro w; simp [Tryd.sizeOf3]) rfl rfl) (fun a hf => ?_)
          refine R.nil ?_
          refine X.then_ ?_
          refine ⟨(hs.mask [false, true, true, true]), ?_⟩
          refine H.one (i := 14) rfl (by kernel_rfl) ?_
          refine S.storeBox 0 hf hs rfl rfl [.int .i64 (w64 (p.At.X - (half n1))), .int .i64 (w64 (p.At.Y - (half n2))), .int .i64 0, .int .i64 0] [.int .i64 (w64 (p.At.X - (half n1))), .int .i64 (w64 (p.At.Y - (half n2))), .int .i64 0, .int .i64 0] rfl rfl rfl rfl rfl Tryd.sizeOf39 rfl rfl rfl rfl (fun a w hf hs => ?_)
          refine R.nil ?_
          refine X.then_ ?_
          refine ⟨(hs.mask [false, true, true, true]), ?_⟩
          refine H.done (by kernel_rfl) ?_
          refine X.then_ ?_
          refine wp_seq ?_
          refine R.list ?_
          refine S.val hf hs (v := .pointer (some ⟨g4, 0, none⟩)) rfl rfl rfl (V.fieldBox rfl rfl Tryd.runUnderlying39 rfl Tryd.sizeOf3 rfl rfl) (fun a hf => ?_)
          refine S.val hf hs (v := .int .i64 (w64 (p.At.X - (half n1)))) rfl rfl rfl (V.loadBox 0 rfl rfl rfl Tryd.isAgg3 Tryd.sizeOf3 rfl rfl) (fun a hf => ?_)
          refine S.val hf hs (v := .int .i64 n1) rfl rfl rfl (V.pure rfl) (fun a hf => ?_)
          refine S.val hf hs (v := .int .i64 (w64 ((w64 (p.At.X - (half n1))) + n1))) rfl rfl rfl (V.pure rfl) (fun a hf => ?_)
          refine S.val hf hs (v := .pointer (some ⟨g4, 1, none⟩)) rfl rfl rfl (V.fieldBox rfl rfl Tryd.runUnderlying39 rfl Tryd.sizeOf3 rfl rfl) (fun a hf => ?_)
          refine S.val hf hs (v := .int .i64 (w64 (p.At.Y - (half n2)))) rfl rfl rfl (V.loadBox 0 rfl rfl rfl Tryd.isAgg3 Tryd.sizeOf3 rfl rfl) (fun a hf => ?_)
          refine S.val hf hs (v := .int .i64 n2) rfl rfl rfl (V.pure rfl) (fun a hf => ?_)
          refine S.val hf hs (v := .int .i64 (w64 ((w64 (p.At.Y - (half n2))) + n2))) rfl rfl rfl (V.pure rfl) (fun a hf => ?_)
          refine S.val hf hs (v := .pointer (some ⟨g4, 2, none⟩)) rfl rfl rfl (V.fieldBox rfl rfl Tryd.runUnderlying39 rfl Tryd.sizeOf3 rfl rfl) (fun a hf => ?_)
          refine S.storeBox 0 hf hs rfl rfl [.int .i64 (w64 ((w64 (p.At.X - (half n1))) + n1))] [.int .i64 (w64 (p.At.X - (half n1))), .int .i64 (w64 (p.At.Y - (half n2))), .int .i64 (w64 ((w64 (p.At.X - (half n1))) + n1)), .int .i64 0] rfl rfl rfl rfl rfl Tryd.sizeOf3 rfl rfl rfl rfl (fun a w hf hs => ?_)
          refine S.val hf hs (v := .pointer (some ⟨g4, 3, none⟩)) rfl rfl rfl (V.fieldBox rfl rfl Tryd.runUnderlying39 rfl Tryd.sizeOf3 rfl rfl) (fun a hf => ?_)
          refine S.storeBox 0 hf hs rfl rfl [.int .i64 (w64 ((w64 (p.At.Y - (half n2))) + n2))] [.int .i64 (w64 (p.At.X - (half n1))), .int .i64 (w64 (p.At.Y - (half n2))), .int .i64 (w64 ((w64 (p.At.X - (half n1))) + n1)), .int .i64 (w64 ((w64 (p.At.Y - (half n2))) + n2))] rfl rfl rfl rfl rfl Tryd.sizeOf3 rfl rfl rfl rfl (fun a w hf hs => ?_)
          refine R.nil ?_
          refine X.then_ ?_
          refine wp_seq ?_
          refine R.list ?_
          refine S.val hf hs (v := .agg #[.int .i64 (w64 (p.At.X - (half n1))), .int .i64 (w64 (p.At.Y - (half n2))), .int .i64 (w64 ((w64 (p.At.X - (half n1))) + n1)), .int .i64 (w64 ((w64 (p.At.Y - (half n2))) + n2))]) rfl rfl rfl (V.loadBox 0 rfl rfl rfl Tryd.isAgg39 Tryd.sizeOf39 rfl rfl) (fun a hf => ?_)
          refine S.storeBox 2 hf hs rfl rfl [.int .i64 (w64 (p.At.X - (half n1))), .int .i64 (w64 (p.At.Y - (half n2))), .int .i64 (w64 ((w64 (p.At.X - (half n1))) + n1)), .int .i64 (w64 ((w64 (p.At.Y - (half n2))) + n2))] [.int .i64 (w64 (p.At.X - (half n1))), .int .i64 (w64 (p.At.Y - (half n2))), .int .i64 (w64 ((w64 (p.At.X - (half n1))) + n1)), .int .i64 (w64 ((w64 (p.At.Y - (half n2))) + n2))] rfl rfl rfl rfl rfl Tryd.sizeOf39 rfl rfl rfl rfl (fun a w hf hs => ?_)
          refine R.nil ?_
          refine X.then_ ?_
          refine wp_ret ?_
          exact L.ret hf (run_results1 Tryd.results50 (ResIs.box hf hs 2 rfl rfl Tryd.isAgg39 Tryd.sizeOf39 rfl rfl)) ⟨(⟨w64 (p.At.X - (half n1)), w64 (p.At.Y - (half n2)), w64 ((w64 (p.At.X - (half n1))) + n1), w64 ((w64 (p.At.Y - (half n2))) + n2)⟩ : Rect), rfl, h, hs.nil⟩
      · refine S.alloc hf hs rfl rfl rfl [.int .i64 0, .int .i64 0, .int .i64 0, .int .i64 0] rfl Tryd.zeroValue39 rfl (fun g4 a w hf hs => ?_)
        refine R.nil ?_
        refine X.then_ ?_
        refine ⟨(hs.mask [false, true, true, true]), ?_⟩
        refine H.one (i := 10) rfl (by kernel_rfl) ?_
        refine S.callv hf rfl rfl rfl (call_fn (vs := [.int .i64 n2]) rfl rfl rfl Tryd.call83) (C_ref10_floorHalf n2 _ ) (fun a w hf hs' => ?_)
        replace hs := hs.call hs'; clear hs'
        refine R.nil ?_
        refine X.then_ ?_
        refine ⟨(hs.mask [false, true, true, true]), ?_⟩
        refine H.val hf (hs.mask [false, true, true, true]) (v := .int .i64 (w64 (p.At.Y - (half n2)))) (i := 11) rfl rfl rfl rfl (by kernel_rfl) (by kernel_rfl) (by kernel_rfl) (V.pure rfl) (fun a hf => ?_)
        refine H.one (i := 12) rfl (by kernel_rfl) ?_
        refine S.val hf hs (v := .agg #[.int .i64 (w64 (p.At.X - (half n1))), .int .i64 (w64 (p.At.Y - (half n2))), .int .i64 0, .int .i64 0]) rfl rfl rfl (V.build (places := #[(0, 1), (1, 1), (2, 1), (3, 1)]) rfl Tryd.zeroValue39 Tryd.runUnderlying39 (by intro w; simp [Tryd.sizeOf3]) rfl rfl) (fun a hf => ?_)
        refine R.nil ?_
        refine X.then_ ?_
        refine ⟨(hs.mask [false, true, true, true]), ?_⟩
        refine H.one (i := 14) rfl (by kernel_rfl) ?_
        refine S.storeBox 0 hf hs rfl rfl [.int .i64 (w64 (p.At.X - (half n1))), .int .i64 (w64 (p.At.Y - (half n2))), .int .i64 0, .int .i64 0] [.int .i64 (w64 (p.At.X - (half n1))), .int .i64 (w64 (p.At.Y - (half n2))), .int .i64 0, .int .i64 0] rfl rfl rfl rfl rfl Tryd.sizeOf39 rfl rfl rfl rfl (fun a w hf hs => ?_)
        refine R.nil ?_
        refine X.then_ ?_
        refine ⟨(hs.mask [false, true, true, true]), ?_⟩
        refine H.done (by kernel_rfl) ?_
        refine X.then_ ?_
        refine wp_seq ?_
        refine R.list ?_
        refine S.val hf hs (v := .pointer (some ⟨g4, 0, none⟩)) rfl rfl rfl (V.fieldBox rfl rfl Tryd.runUnderlying39 rfl Tryd.sizeOf3 rfl rfl) (fun a hf => ?_)
        refine S.val hf hs (v := .int .i64 (w64 (p.At.X - (half n1)))) rfl rfl rfl (V.loadBox 0 rfl rfl rfl Tryd.isAgg3 Tryd.sizeOf3 rfl rfl) (fun a hf => ?_)
        refine S.val hf hs (v := .int .i64 n1) rfl rfl rfl (V.pure rfl) (fun a hf => ?_)
        refine S.val hf hs (v := .int .i64 (w64 ((w64 (p.At.X - (half n1))) + n1))) rfl rfl rfl (V.pure rfl) (fun a hf => ?_)
        refine S.val hf hs (v := .pointer (some ⟨g4, 1, none⟩)) rfl rfl rfl (V.fieldBox rfl rfl Tryd.runUnderlying39 rfl Tryd.sizeOf3 rfl rfl) (fun a hf => ?_)
        refine S.val hf hs (v := .int .i64 (w64 (p.At.Y - (half n2)))) rfl rfl rfl (V.loadBox 0 rfl rfl rfl Tryd.isAgg3 Tryd.sizeOf3 rfl rfl) (fun a hf => ?_)
        refine S.val hf hs (v := .int .i64 n2) rfl rfl rfl (V.pure rfl) (fun a hf => ?_)
        refine S.val hf hs (v := .int .i64 (w64 ((w64 (p.At.Y - (half n2))) + n2))) rfl rfl rfl (V.pure rfl) (fun a hf => ?_)
        refine S.val hf hs (v := .pointer (some ⟨g4, 2, none⟩)) rfl rfl rfl (V.fieldBox rfl rfl Tryd.runUnderlying39 rfl Tryd.sizeOf3 rfl rfl) (fun a hf => ?_)
        refine S.storeBox 0 hf hs rfl rfl [.int .i64 (w64 ((w64 (p.At.X - (half n1))) + n1))] [.int .i64 (w64 (p.At.X - (half n1))), .int .i64 (w64 (p.At.Y - (half n2))), .int .i64 (w64 ((w64 (p.At.X - (half n1))) + n1)), .int .i64 0] rfl rfl rfl rfl rfl Tryd.sizeOf3 rfl rfl rfl rfl (fun a w hf hs => ?_)
        refine S.val hf hs (v := .pointer (some ⟨g4, 3, none⟩)) rfl rfl rfl (V.fieldBox rfl rfl Tryd.runUnderlying39 rfl Tryd.sizeOf3 rfl rfl) (fun a hf => ?_)
        refine S.storeBox 0 hf hs rfl rfl [.int .i64 (w64 ((w64 (p.At.Y - (half n2))) + n2))] [.int .i64 (w64 (p.At.X - (half n1))), .int .i64 (w64 (p.At.Y - (half n2))), .int .i64 (w64 ((w64 (p.At.X - (half n1))) + n1)), .int .i64 (w64 ((w64 (p.At.Y - (half n2))) + n2))] rfl rfl rfl rfl rfl Tryd.sizeOf3 rfl rfl rfl rfl (fun a w hf hs => ?_)
        refine R.nil ?_
        refine X.then_ ?_
        refine wp_seq ?_
        refine R.list ?_
        refine S.val hf hs (v := .agg #[.int .i64 (w64 (p.At.X - (half n1))), .int .i64 (w64 (p.At.Y - (half n2))), .int .i64 (w64 ((w64 (p.At.X - (half n1))) + n1)), .int .i64 (w64 ((w64 (p.At.Y - (half n2))) + n2))]) rfl rfl rfl (V.loadBox 0 rfl rfl rfl Tryd.isAgg39 Tryd.sizeOf39 rfl rfl) (fun a hf => ?_)
        refine S.storeBox 2 hf hs rfl rfl [.int .i64 (w64 (p.At.X - (half n1))), .int .i64 (w64 (p.At.Y - (half n2))), .int .i64 (w64 ((w64 (p.At.X - (half n1))) + n1)), .int .i64 (w64 ((w64 (p.At.Y - (half n2))) + n2))] [.int .i64 (w64 (p.At.X - (half n1))), .int .i64 (w64 (p.At.Y - (half n2))), .int .i64 (w64 ((w64 (p.At.X - (half n1))) + n1)), .int .i64 (w64 ((w64 (p.At.Y - (half n2))) + n2))] rfl rfl rfl rfl rfl Tryd.sizeOf39 rfl rfl rfl rfl (fun a w hf hs => ?_)
        refine R.nil ?_
        refine X.then_ ?_
        refine wp_ret ?_
        exact L.ret hf (run_results1 Tryd.results50 (ResIs.box hf hs 2 rfl rfl Tryd.isAgg39 Tryd.sizeOf39 rfl rfl)) ⟨(⟨w64 (p.At.X - (half n1)), w64 (p.At.Y - (half n2)), w64 ((w64 (p.At.X - (half n1))) + n1), w64 ((w64 (p.At.Y - (half n2))) + n2)⟩ : Rect), rfl, h, hs.nil⟩
    · refine S.alloc hf hs rfl rfl rfl [.int .i64 0, .int .i64 0, .int .i64 0, .int .i64 0] rfl Tryd.zeroValue39 rfl (fun g4 a w hf hs => ?_)
      refine R.nil ?_
      refine X.then_ ?_
      refine ⟨(hs.mask [false, true, true, true]), ?_⟩
      refine H.one (i := 4) rfl (by kernel_rfl) ?_
      refine S.callv hf rfl rfl rfl (call_fn (vs := [.int .i64 n1]) rfl rfl rfl Tryd.call83) (C_ref10_floorHalf n1 _ ) (fun a w hf hs' => ?_)
      replace hs := hs.call hs'; clear hs'
      refine R.nil ?_
      refine X.then_ ?_
      refine ⟨(hs.mask [false, true, true, true]), ?_⟩
      refine H.val hf (hs.mask [false, true, true, true]) (v := .int .i64 (w64 (p.At.X - (half n1)))) (i := 5) rfl rfl rfl rfl (by kernel_rfl) (by kernel_rfl) (by kernel_rfl) (V.pure rfl) (fun a hf => ?_)
      refine H.one (i := 10) rfl (by kernel_rfl) ?_
      refine S.callv hf rfl rfl rfl (call_fn (vs := [.int .i64 n2]) rfl rfl rfl Tryd.call83) (C_ref10_floorHalf n2 _ ) (fun a w hf hs' => ?_)
      replace hs := hs.call hs'; clear hs'
      refine R.nil ?_
      refine X.then_ ?_
      refine ⟨(hs.mask [false, true, true, true]), ?_⟩
      refine H.val hf (hs.mask [false, true, true, true]) (v := .int .i64 (w64 (p.At.Y - (half n2)))) (i := 11) rfl rfl rfl rfl (by kernel_rfl) (by kernel_rfl) (by kernel_rfl) (V.pure rfl) (fun a hf => ?_)
      refine H.one (i := 12) rfl (by kernel_rfl) ?_
      refine S.val hf hs (v := .agg #[.int .i64 (w64 (p.At.X - (half n1))), .int .i64 (w64 (p.At.Y - (half n2))), .int .i64 0, .int .i64 0]) rfl rfl rfl (V.build (places := #[(0, 1), (1, 1), (2, 1), (3, 1)]) rfl Tryd.zeroValue39 Tryd.runUnderlying39 (by intro w; simp [Tryd.sizeOf3]) rfl rfl) (fun a hf => ?_)
      refine R.nil ?_
      refine X.then_ ?_
      refine ⟨(hs.mask [false, true, true, true]), ?_⟩
      refine H.one (i := 14) rfl (by kernel_rfl) ?_
      refine S.storeBox 0 hf hs rfl rfl [.int .i64 (w64 (p.At.X - (half n1))), .int .i64 (w64 (p.At.Y - (half n2))), .int .i64 0, .int .i64 0] [.int .i64 (w64 (p.At.X - (half n1))), .int .i64 (w64 (p.At.Y - (half n2))), .int .i64 0, .int .i64 0] rfl rfl rfl rfl rfl Tryd.sizeOf39 rfl rfl rfl rfl (fun a w hf hs => ?_)
      refine R.nil ?_
      refine X.then_ ?_
      refine ⟨(hs.mask [false, true, true, true]), ?_⟩
      refine H.done (by kernel_rfl) ?_
      refine X.then_ ?_
      refine wp_seq ?_
      refine R.list ?_
      refine S.val hf hs (v := .pointer (some ⟨g4, 0, none⟩)) rfl rfl rfl (V.fieldBox rfl rfl Tryd.runUnderlying39 rfl Tryd.sizeOf3 rfl rfl) (fun a hf => ?_)
      refine S.val hf hs (v := .int .i64 (w64 (p.At.X - (half n1)))) rfl rfl rfl (V.loadBox 0 rfl rfl rfl Tryd.isAgg3 Tryd.sizeOf3 rfl rfl) (fun a hf => ?_)
      refine S.val hf hs (v := .int .i64 n1) rfl rfl rfl (V.pure rfl) (fun a hf => ?_)
      refine S.val hf hs (v := .int .i64 (w64 ((w64 (p.At.X - (half n1))) + n1))) rfl rfl rfl (V.pure rfl) (fun a hf => ?_)
      refine S.val hf hs (v := .pointer (some ⟨g4, 1, none⟩)) rfl rfl rfl (V.fieldBox rfl rfl Tryd.runUnderlying39 rfl Tryd.sizeOf3 rfl rfl) (fun a hf => ?_)
      refine S.val hf hs (v := .int .i64 (w64 (p.At.Y - (half n2)))) rfl rfl rfl (V.loadBox 0 rfl rfl rfl Tryd.isAgg3 Tryd.sizeOf3 rfl rfl) (fun a hf => ?_)
      refine S.val hf hs (v := .int .i64 n2) rfl rfl rfl (V.pure rfl) (fun a hf => ?_)
      refine S.val hf hs (v := .int .i64 (w64 ((w64 (p.At.Y - (half n2))) + n2))) rfl rfl rfl (V.pure rfl) (fun a hf => ?_)
      refine S.val hf hs (v := .pointer (some ⟨g4, 2, none⟩)) rfl rfl rfl (V.fieldBox rfl rfl Tryd.runUnderlying39 rfl Tryd.sizeOf3 rfl rfl) (fun a hf => ?_)
      refine S.storeBox 0 hf hs rfl rfl [.int .i64 (w64 ((w64 (p.At.X - (half n1))) + n1))] [.int .i64 (w64 (p.At.X - (half n1))), .int .i64 (w64 (p.At.Y - (half n2))), .int .i64 (w64 ((w64 (p.At.X - (half n1))) + n1)), .int .i64 0] rfl rfl rfl rfl rfl Tryd.sizeOf3 rfl rfl rfl rfl (fun a w hf hs => ?_)
      refine S.val hf hs (v := .pointer (some ⟨g4, 3, none⟩)) rfl rfl rfl (V.fieldBox rfl rfl Tryd.runUnderlying39 rfl Tryd.sizeOf3 rfl rfl) (fun a hf => ?_)
      refine S.storeBox 0 hf hs rfl rfl [.int .i64 (w64 ((w64 (p.At.Y - (half n2))) + n2))] [.int .i64 (w64 (p.At.X - (half n1))), .int .i64 (w64 (p.At.Y - (half n2))), .int .i64 (w64 ((w64 (p.At.X - (half n1))) + n1)), .int .i64 (w64 ((w64 (p.At.Y - (half n2))) + n2))] rfl rfl rfl rfl rfl Tryd.sizeOf3 rfl rfl rfl rfl (fun a w hf hs => ?_)
      refine R.nil ?_
      refine X.then_ ?_
      refine wp_seq ?_
      refine R.list ?_
      refine S.val hf hs (v := .agg #[.int .i64 (w64 (p.At.X - (half n1))), .int .i64 (w64 (p.At.Y - (half n2))), .int .i64 (w64 ((w64 (p.At.X - (half n1))) + n1)), .int .i64 (w64 ((w64 (p.At.Y - (half n2))) + n2))]) rfl rfl rfl (V.loadBox 0 rfl rfl rfl Tryd.isAgg39 Tryd.sizeOf39 rfl rfl) (fun a hf => ?_)
      refine S.storeBox 2 hf hs rfl rfl [.int .i64 (w64 (p.At.X - (half n1))), .int .i64 (w64 (p.At.Y - (half n2))), .int .i64 (w64 ((w64 (p.At.X - (half n1))) + n1)), .int .i64 (w64 ((w64 (p.At.Y - (half n2))) + n2))] [.int .i64 (w64 (p.At.X - (half n1))), .int .i64 (w64 (p.At.Y - (half n2))), .int .i64 (w64 ((w64 (p.At.X - (half n1))) + n1)), .int .i64 (w64 ((w64 (p.At.Y - (half n2))) + n2))] rfl rfl rfl rfl rfl Tryd.sizeOf39 rfl rfl rfl rfl (fun a w hf hs => ?_)
      refine R.nil ?_
      refine X.then_ ?_
      refine wp_ret ?_
      exact L.ret hf (run_results1 Tryd.results50 (ResIs.box hf hs 2 rfl rfl Tryd.isAgg39 Tryd.sizeOf39 rfl rfl)) ⟨(⟨w64 (p.At.X - (half n1)), w64 (p.At.Y - (half n2)), w64 ((w64 (p.At.X - (half n1))) + n1), w64 ((w64 (p.At.Y - (half n2))) + n2)⟩ : Rect), rfl, h, hs.nil⟩
  · skip
    refine wp_seq ?_
    refine R.list ?_
    refine S.val hf hs (v := .pointer (some ⟨g1, 4, none⟩)) rfl rfl rfl (V.fieldBox rfl rfl Tryd.runUnderlying28 rfl Tryd.sizeOf3 rfl rfl) (fun a hf => ?_)
    refine S.val hf hs (v := .int .i64 p.Quarters) rfl rfl rfl (V.loadBox 2 rfl rfl rfl Tryd.isAgg3 Tryd.sizeOf3 rfl rfl) (fun a hf => ?_)
    refine S.val hf hs (v := .int .i64 (p.Quarters.tmod 2)) rfl rfl rfl (V.rem rfl rfl rfl (by decide)) (fun a hf => ?_)
    refine S.val hf hs (v := .bool ((p.Quarters.tmod 2) == 1)) rfl rfl rfl (V.pure rfl) (fun a hf => ?_)
    refine R.nil ?_
    refine X.then_ ?_
    refine C.cond hf (b := (p.Quarters.tmod 2) == 1) rfl (fun hc => ?_) (fun hc => ?_)
    · replace h := h.1 hc
      refine R.list ?_
      refine S.val hf hs (v := .int .i64 x1.H) rfl rfl rfl (V.pure rfl) (fun a hf => ?_)
      refine S.val hf hs (v := .int .i64 x1.W) rfl rfl rfl (V.pure rfl) (fun a hf => ?_)
      refine S.val hf hs (v := .int .i64 x1.H) rfl rfl rfl (V.pure rfl) (fun a hf => ?_)
      refine S.val hf hs (v := .int .i64 x1.W) rfl rfl rfl (V.pure rfl) (fun a hf => ?_)
      refine R.nil ?_
      refine X.then_ ?_
      exact ⟨x1.H, x1.W, h, ((((hf.nil.cons (hf.get 7 _ rfl)).cons (hf.get 6 _ rfl)).cons (hf.get 4 _ rfl)).cons (hf.get 3 _ rfl)), hs⟩
    · replace h := h.2 hc
      refine wp_skip ?_
      refine X.then_ ?_
      exact ⟨x1.W, x1.H, h, ((((hf.nil.cons (hf.get 7 _ rfl)).cons (hf.get 6 _ rfl)).cons (hf.get 4 _ rfl)).cons (hf.get 3 _ rfl)), hs⟩

set_option linter.unusedVariables false
def M_mount_Taken (b : (List Body)) (p : Place) (Q : Rect → Int → Prop) : Prop :=
  M_mount_CheckPlaces b [p] fun y1 => cnd (y1 != 0) (Q (⟨0, 0, 0, 0⟩ : Rect) y1) (M_mount_taken b p fun y2 => Q y2 0)
set_option maxHeartbeats 1000000 in
theorem R_mount_Taken (b : (List Body)) (p : Place) (w0 : World) (bA : Option Addr) (bC : Nat) (hv_b : View w0 (old w0 none_) bA bC b) (Q : Rect → Int → Prop) (h : M_mount_Taken b p Q) :
    Ret Tryd.prog 16 #[.slice bA b.length bC, .agg #[.string (ba p.Part), .string (ba p.Typ), .int .i64 p.At.X, .int .i64 p.At.Y, .int .i64 p.Quarters, .bool p.Below]] w0 fun v w' => ∃ (r0 : Rect) (r1 : Int), v = .tuple #[.agg #[.int .i64 r0.X0, .int .i64 r0.Y0, .int .i64 r0.X1, .int .i64 r0.Y1], .int .i64 r1] ∧ Q r0 r1 ∧ Sat w0 none_ [] w' := by
  refine fn_enter Tryd.func16 rfl Tryd.ntmps16 rfl (fs := [(0, .slice bA b.length bC), (1, .agg #[.string (ba p.Part), .string (ba p.Typ), .int .i64 p.At.X, .int .i64 p.At.Y, .int .i64 p.Quarters, .bool p.Below])]) rfl (fun a hf => ?_)
  have hs := Sat.start w0 none_
  unfold M_mount_Taken at h
  refine wp_seq ?_
  refine R.list ?_
  refine S.box hf hs rfl rfl rfl [.string (ba p.Part), .string (ba p.Typ), .int .i64 p.At.X, .int .i64 p.At.Y, .int .i64 p.Quarters, .bool p.Below] rfl rfl rfl (fun g1 a w hf hs => ?_)
  refine S.alloc hf hs rfl rfl rfl [.int .i64 0, .int .i64 0, .int .i64 0, .int .i64 0] rfl Tryd.zeroValue39 rfl (fun g2 a w hf hs => ?_)
  refine S.val hf hs (v := .int .i64 0) rfl rfl rfl (V.pure rfl) (fun a hf => ?_)
  refine R.nil ?_
  refine X.then_ ?_
  refine wp_seq ?_
  refine wp_seq ?_
  refine R.list ?_
  refine S.val hf hs (v := .slice bA b.length bC) rfl rfl rfl (V.pure rfl) (fun a hf => ?_)
  refine S.val hf hs (v := .agg #[.string (ba p.Part), .string (ba p.Typ), .int .i64 p.At.X, .int .i64 p.At.Y, .int .i64 p.Quarters, .bool p.Below]) rfl rfl rfl (V.loadBox 1 rfl rfl rfl Tryd.isAgg28 Tryd.sizeOf28 rfl rfl) (fun a hf => ?_)
  refine S.build1 hf hs rfl rfl rfl (α := Place) p rfl rfl rfl Tryd.runUnderlying23 Tryd.sizeOf28 Tryd.zeroValue28 rfl (by decide) (fun A1 a w hf hs => ?_)
  refine S.call hf rfl rfl rfl (call_fn (vs := [.slice bA b.length bC, .slice A1 [p].length 1]) rfl rfl rfl Tryd.call35) (R_mount_CheckPlaces b [p] _ bA bC ((Ag.args _ _ _).view hv_b hs) A1 1 (hs.ownView 0 rfl) _ h) (fun v a w' hf hr => ?_)
  obtain ⟨y1, rfl, h2, hs2⟩ := hr
  replace h := h2; replace hs := hs.call hs2; clear h2 hs2
  refine S.val hf hs (v := .int .i64 y1) rfl rfl rfl (V.pure rfl) (fun a hf => ?_)
  refine R.nil ?_
  refine X.then_ ?_
  refine wp_seq ?_
  refine R.list ?_
  refine S.val hf hs (v := .int .i64 y1) rfl rfl rfl (V.pure rfl) (fun a hf => ?_)
  refine S.val hf hs (v := .bool (y1 != 0)) rfl rfl rfl (V.pure rfl) (fun a hf => ?_)
  refine R.nil ?_
  refine X.then_ ?_
  refine C.cond hf (b := y1 != 0) rfl (fun hc => ?_) (fun hc => ?_)
  · replace h := h.1 hc
    refine wp_seq ?_
    refine R.list ?_
    refine S.val hf hs (v := .agg #[.int .i64 0, .int .i64 0, .int .i64 0, .int .i64 0]) rfl rfl rfl (V.build (places := #[(0, 1), (1, 1), (2, 1), (3, 1)]) rfl Tryd.zeroValue39 Tryd.runUnderlying39 (by intro w; simp [Tryd.sizeOf3]) rfl rfl) (fun a hf => ?_)
    refine S.val hf hs (v := .int .i64 y1) rfl rfl rfl (V.pure rfl) (fun a hf => ?_)
    refine S.storeBox 1 hf hs rfl rfl [.int .i64 0, .int .i64 0, .int .i64 0, .int .i64 0] [.int .i64 0, .int .i64 0, .int .i64 0, .int .i64 0] rfl rfl rfl rfl rfl Tryd.sizeOf39 rfl rfl rfl rfl (fun a w hf hs => ?_)
    refine S.val hf hs (v := .int .i64 y1) rfl rfl rfl (V.pure rfl) (fun a hf => ?_)
    refine R.nil ?_
    refine X.then_ ?_
    refine wp_ret ?_
    refine X.then_ret ?_
    exact L.ret hf (run_results2 Tryd.results16 (ResIs.box hf hs 1 rfl rfl Tryd.isAgg39 Tryd.sizeOf39 rfl rfl) (ResIs.tmp hf rfl)) ⟨(⟨0, 0, 0, 0⟩ : Rect), y1, rfl, h, hs.nil⟩
  · replace h := h.2 hc
    refine wp_skip ?_
    refine X.then_ ?_
    refine wp_seq ?_
    refine R.list ?_
    refine S.val hf hs (v := .slice bA b.length bC) rfl rfl rfl (V.pure rfl) (fun a hf => ?_)
    refine S.val hf hs (v := .agg #[.string (ba p.Part), .string (ba p.Typ), .int .i64 p.At.X, .int .i64 p.At.Y, .int .i64 p.Quarters, .bool p.Below]) rfl rfl rfl (V.loadBox 2 rfl rfl rfl Tryd.isAgg28 Tryd.sizeOf28 rfl rfl) (fun a hf => ?_)
    refine S.call hf rfl rfl rfl (call_fn (vs := [.slice bA b.length bC, .agg #[.string (ba p.Part), .string (ba p.Typ), .int .i64 p.At.X, .int .i64 p.At.Y, .int .i64 p.Quarters, .bool p.Below]]) rfl rfl rfl Tryd.call48) (R_mount_taken b p _ bA bC ((Ag.args _ _ _).view hv_b hs) _ h) (fun v a w' hf hr => ?_)
    obtain ⟨y2, rfl, h2, hs2⟩ := hr
    replace h := h2; replace hs := hs.call hs2; clear h2 hs2
    refine S.storeBox 1 hf hs rfl rfl [.int .i64 y2.X0, .int .i64 y2.Y0, .int .i64 y2.X1, .int .i64 y2.Y1] [.int .i64 y2.X0, .int .i64 y2.Y0, .int .i64 y2.X1, .int .i64 y2.Y1] rfl rfl rfl rfl rfl Tryd.sizeOf39 rfl rfl rfl rfl (fun a w hf hs => ?_)
    refine S.val hf hs (v := .int .i64 0) rfl rfl rfl (V.pure rfl) (fun a hf => ?_)
    refine R.nil ?_
    refine X.then_ ?_
    refine wp_ret ?_
    exact L.ret hf (run_results2 Tryd.results16 (ResIs.box hf hs 1 rfl rfl Tryd.isAgg39 Tryd.sizeOf39 rfl rfl) (ResIs.tmp hf rfl)) ⟨y2, 0, rfl, h, hs.nil⟩

set_option linter.unusedVariables false
def M_ref10_Taken (b : (List Body)) (p : Place) (Q : Rect → Int → Prop) : Prop :=
  M_ref10_CheckBodies b fun y1 => cnd (y1 != 0) (Q (⟨0, 0, 0, 0⟩ : Rect) y1) (M_ref10_checkPlace b p fun y2 => cnd (y2 != 0) (Q (⟨0, 0, 0, 0⟩ : Rect) y2) (M_ref10_taken b p fun y3 => Q y3 0))
set_option maxHeartbeats 1000000 in
theorem R_ref10_Taken (b : (List Body)) (p : Place) (w0 : World) (bA : Option Addr) (bC : Nat) (hv_b : View w0 (old w0 none_) bA bC b) (Q : Rect → Int → Prop) (h : M_ref10_Taken b p Q) :
    Ret Tryd.prog 17 #[.slice bA b.length bC, .agg #[.string (ba p.Part), .string (ba p.Typ), .int .i64 p.At.X, .int .i64 p.At.Y, .int .i64 p.Quarters, .bool p.Below]] w0 fun v w' => ∃ (r0 : Rect) (r1 : Int), v = .tuple #[.agg #[.int .i64 r0.X0, .int .i64 r0.Y0, .int .i64 r0.X1, .int .i64 r0.Y1], .int .i64 r1] ∧ Q r0 r1 ∧ Sat w0 none_ [] w' := by
  refine fn_enter Tryd.func17 rfl Tryd.ntmps17 rfl (fs := [(0, .slice bA b.length bC), (1, .agg #[.string (ba p.Part), .string (ba p.Typ), .int .i64 p.At.X, .int .i64 p.At.Y, .int .i64 p.Quarters, .bool p.Below])]) rfl (fun a hf => ?_)
  have hs := Sat.start w0 none_
  unfold M_ref10_Taken at h
  refine wp_seq ?_
  refine R.list ?_
  refine S.box hf hs rfl rfl rfl [.string (ba p.Part), .string (ba p.Typ), .int .i64 p.At.X, .int .i64 p.At.Y, .int .i64 p.Quarters, .bool p.Below] rfl rfl rfl (fun g1 a w hf hs => ?_)
  refine S.alloc hf hs rfl rfl rfl [.int .i64 0, .int .i64 0, .int .i64 0, .int .i64 0] rfl Tryd.zeroValue39 rfl (fun g2 a w hf hs => ?_)
  refine S.val hf hs (v := .int .i64 0) rfl rfl rfl (V.pure rfl) (fun a hf => ?_)
  refine R.nil ?_
  refine X.then_ ?_
  refine wp_seq ?_
  refine wp_seq ?_
  refine R.list ?_
  refine S.val hf hs (v := .slice bA b.length bC) rfl rfl rfl (V.pure rfl) (fun a hf => ?_)
  refine S.call hf rfl rfl rfl (call_fn (vs := [.slice bA b.length bC]) rfl rfl rfl Tryd.call34) (R_ref10_CheckBodies b _ bA bC ((Ag.args _ _ _).view hv_b hs) _ h) (fun v a w' hf hr => ?_)
  obtain ⟨y1, rfl, h2, hs2⟩ := hr
  replace h := h2; replace hs := hs.call hs2; clear h2 hs2
  refine S.val hf hs (v := .int .i64 y1) rfl rfl rfl (V.pure rfl) (fun a hf => ?_)
  refine R.nil ?_
  refine X.then_ ?_
  refine wp_seq ?_
  refine R.list ?_
  refine S.val hf hs (v := .int .i64 y1) rfl rfl rfl (V.pure rfl) (fun a hf => ?_)
  refine S.val hf hs (v := .bool (y1 != 0)) rfl rfl rfl (V.pure rfl) (fun a hf => ?_)
  refine R.nil ?_
  refine X.then_ ?_
  refine C.cond hf (b := y1 != 0) rfl (fun hc => ?_) (fun hc => ?_)
  · replace h := h.1 hc
    refine wp_seq ?_
    refine R.list ?_
    refine S.val hf hs (v := .agg #[.int .i64 0, .int .i64 0, .int .i64 0, .int .i64 0]) rfl rfl rfl (V.build (places := #[(0, 1), (1, 1), (2, 1), (3, 1)]) rfl Tryd.zeroValue39 Tryd.runUnderlying39 (by intro w; simp [Tryd.sizeOf3]) rfl rfl) (fun a hf => ?_)
    refine S.val hf hs (v := .int .i64 y1) rfl rfl rfl (V.pure rfl) (fun a hf => ?_)
    refine S.storeBox 0 hf hs rfl rfl [.int .i64 0, .int .i64 0, .int .i64 0, .int .i64 0] [.int .i64 0, .int .i64 0, .int .i64 0, .int .i64 0] rfl rfl rfl rfl rfl Tryd.sizeOf39 rfl rfl rfl rfl (fun a w hf hs => ?_)
    refine S.val hf hs (v := .int .i64 y1) rfl rfl rfl (V.pure rfl) (fun a hf => ?_)
    refine R.nil ?_
    refine X.then_ ?_
    refine wp_ret ?_
    refine X.then_ret ?_
    exact L.ret hf (run_results2 Tryd.results17 (ResIs.box hf hs 0 rfl rfl Tryd.isAgg39 Tryd.sizeOf39 rfl rfl) (ResIs.tmp hf rfl)) ⟨(⟨0, 0, 0, 0⟩ : Rect), y1, rfl, h, hs.nil⟩
  · replace h := h.2 hc
    refine wp_skip ?_
    refine X.then_ ?_
    refine wp_seq ?_
    refine wp_seq ?_
    refine R.list ?_
    refine S.val hf hs (v := .slice bA b.length bC) rfl rfl rfl (V.pure rfl) (fun a hf => ?_)
    refine S.val hf hs (v := .agg #[.string (ba p.Part), .string (ba p.Typ), .int .i64 p.At.X, .int .i64 p.At.Y, .int .i64 p.Quarters, .bool p.Below]) rfl rfl rfl (V.loadBox 1 rfl rfl rfl Tryd.isAgg28 Tryd.sizeOf28 rfl rfl) (fun a hf => ?_)
    refine S.call hf rfl rfl rfl (call_fn (vs := [.slice bA b.length bC, .agg #[.string (ba p.Part), .string (ba p.Typ), .int .i64 p.At.X, .int .i64 p.At.Y, .int .i64 p.Quarters, .bool p.Below]]) rfl rfl rfl Tryd.call49) (R_ref10_checkPlace b p _ bA bC ((Ag.args _ _ _).view hv_b hs) _ h) (fun v a w' hf hr => ?_)
    obtain ⟨y2, rfl, h2, hs2⟩ := hr
    replace h := h2; replace hs := hs.call hs2; clear h2 hs2
    refine S.val hf hs (v := .int .i64 y2) rfl rfl rfl (V.pure rfl) (fun a hf => ?_)
    refine R.nil ?_
    refine X.then_ ?_
    refine wp_seq ?_
    refine R.list ?_
    refine S.val hf hs (v := .int .i64 y2) rfl rfl rfl (V.pure rfl) (fun a hf => ?_)
    refine S.val hf hs (v := .bool (y2 != 0)) rfl rfl rfl (V.pure rfl) (fun a hf => ?_)
    refine R.nil ?_
    refine X.then_ ?_
    refine C.cond hf (b := y2 != 0) rfl (fun hc => ?_) (fun hc => ?_)
    · replace h := h.1 hc
      refine wp_seq ?_
      refine R.list ?_
      refine S.val hf hs (v := .agg #[.int .i64 0, .int .i64 0, .int .i64 0, .int .i64 0]) rfl rfl rfl (V.build (places := #[(0, 1), (1, 1), (2, 1), (3, 1)]) rfl Tryd.zeroValue39 Tryd.runUnderlying39 (by intro w; simp [Tryd.sizeOf3]) rfl rfl) (fun a hf => ?_)
      refine S.val hf hs (v := .int .i64 y2) rfl rfl rfl (V.pure rfl) (fun a hf => ?_)
      refine S.storeBox 0 hf hs rfl rfl [.int .i64 0, .int .i64 0, .int .i64 0, .int .i64 0] [.int .i64 0, .int .i64 0, .int .i64 0, .int .i64 0] rfl rfl rfl rfl rfl Tryd.sizeOf39 rfl rfl rfl rfl (fun a w hf hs => ?_)
      refine S.val hf hs (v := .int .i64 y2) rfl rfl rfl (V.pure rfl) (fun a hf => ?_)
      refine R.nil ?_
      refine X.then_ ?_
      refine wp_ret ?_
      refine X.then_ret ?_
      exact L.ret hf (run_results2 Tryd.results17 (ResIs.box hf hs 0 rfl rfl Tryd.isAgg39 Tryd.sizeOf39 rfl rfl) (ResIs.tmp hf rfl)) ⟨(⟨0, 0, 0, 0⟩ : Rect), y2, rfl, h, hs.nil⟩
    · replace h := h.2 hc
      refine wp_skip ?_
      refine X.then_ ?_
      refine wp_seq ?_
      refine R.list ?_
      refine S.val hf hs (v := .slice bA b.length bC) rfl rfl rfl (V.pure rfl) (fun a hf => ?_)
      refine S.val hf hs (v := .agg #[.string (ba p.Part), .string (ba p.Typ), .int .i64 p.At.X, .int .i64 p.At.Y, .int .i64 p.Quarters, .bool p.Below]) rfl rfl rfl (V.loadBox 1 rfl rfl rfl Tryd.isAgg28 Tryd.sizeOf28 rfl rfl) (fun a hf => ?_)
      refine S.call hf rfl rfl rfl (call_fn (vs := [.slice bA b.length bC, .agg #[.string (ba p.Part), .string (ba p.Typ), .int .i64 p.At.X, .int .i64 p.At.Y, .int .i64 p.Quarters, .bool p.Below]]) rfl rfl rfl Tryd.call50) (R_ref10_taken b p _ bA bC ((Ag.args _ _ _).view hv_b hs) _ h) (fun v a w' hf hr => ?_)
      obtain ⟨y3, rfl, h2, hs2⟩ := hr
      replace h := h2; replace hs := hs.call hs2; clear h2 hs2
      refine S.storeBox 0 hf hs rfl rfl [.int .i64 y3.X0, .int .i64 y3.Y0, .int .i64 y3.X1, .int .i64 y3.Y1] [.int .i64 y3.X0, .int .i64 y3.Y0, .int .i64 y3.X1, .int .i64 y3.Y1] rfl rfl rfl rfl rfl Tryd.sizeOf39 rfl rfl rfl rfl (fun a w hf hs => ?_)
      refine S.val hf hs (v := .int .i64 0) rfl rfl rfl (V.pure rfl) (fun a hf => ?_)
      refine R.nil ?_
      refine X.then_ ?_
      refine wp_ret ?_
      exact L.ret hf (run_results2 Tryd.results17 (ResIs.box hf hs 0 rfl rfl Tryd.isAgg39 Tryd.sizeOf39 rfl rfl) (ResIs.tmp hf rfl)) ⟨y3, 0, rfl, h, hs.nil⟩

set_option linter.unusedVariables false
def M_ref10_between_k1 (a_ : Rect) (b : Rect) (Q : Int → Prop) (c1 : Bool) : Prop :=
  cnd c1 (Q (-1)) (Q (max (max (max (w64 (b.X0 - a_.X1)) (w64 (a_.X0 - b.X1))) (max (w64 (b.Y0 - a_.Y1)) (w64 (a_.Y0 - b.Y1)))) 0))
def M_ref10_between (a_ : Rect) (b : Rect) (Q : Int → Prop) : Prop :=
  cnd (decide (max (w64 (b.X0 - a_.X1)) (w64 (a_.X0 - b.X1)) < 0)) (M_ref10_between_k1 a_ b Q (decide (max (w64 (b.Y0 - a_.Y1)) (w64 (a_.Y0 - b.Y1)) < 0))) (M_ref10_between_k1 a_ b Q false)
set_option maxHeartbeats 1000000 in
theorem R_ref10_between (a_ : Rect) (b : Rect) (w0 : World)  (Q : Int → Prop) (h : M_ref10_between a_ b Q) :
    Ret Tryd.prog 52 #[.agg #[.int .i64 a_.X0, .int .i64 a_.Y0, .int .i64 a_.X1, .int .i64 a_.Y1], .agg #[.int .i64 b.X0, .int .i64 b.Y0, .int .i64 b.X1, .int .i64 b.Y1]] w0 fun v w' => ∃ (r0 : Int), v = .int .i64 r0 ∧ Q r0 ∧ Sat w0 none_ [] w' := by
  refine fn_enter Tryd.func52 rfl Tryd.ntmps52 rfl (fs := [(0, .agg #[.int .i64 a_.X0, .int .i64 a_.Y0, .int .i64 a_.X1, .int .i64 a_.Y1]), (1, .agg #[.int .i64 b.X0, .int .i64 b.Y0, .int .i64 b.X1, .int .i64 b.Y1])]) rfl (fun a hf => ?_)
  have hs := Sat.start w0 none_
  unfold M_ref10_between at h
  refine wp_seq ?_
  refine R.list ?_
  refine S.box hf hs rfl rfl rfl [.int .i64 a_.X0, .int .i64 a_.Y0, .int .i64 a_.X1, .int .i64 a_.Y1] rfl rfl rfl (fun g1 a w hf hs => ?_)
  refine S.box hf hs rfl rfl rfl [.int .i64 b.X0, .int .i64 b.Y0, .int .i64 b.X1, .int .i64 b.Y1] rfl rfl rfl (fun g2 a w hf hs => ?_)
  refine S.val hf hs (v := .int .i64 0) rfl rfl rfl (V.pure rfl) (fun a hf => ?_)
  refine R.nil ?_
  refine X.then_ ?_
  refine wp_seq ?_
  refine R.list ?_
  refine S.val hf hs (v := .pointer (some ⟨g2, 0, none⟩)) rfl rfl rfl (V.fieldBox rfl rfl Tryd.runUnderlying39 rfl Tryd.sizeOf3 rfl rfl) (fun a hf => ?_)
  refine S.val hf hs (v := .int .i64 b.X0) rfl rfl rfl (V.loadBox 0 rfl rfl rfl Tryd.isAgg3 Tryd.sizeOf3 rfl rfl) (fun a hf => ?_)
  refine S.val hf hs (v := .pointer (some ⟨g1, 2, none⟩)) rfl rfl rfl (V.fieldBox rfl rfl Tryd.runUnderlying39 rfl Tryd.sizeOf3 rfl rfl) (fun a hf => ?_)
  refine S.val hf hs (v := .int .i64 a_.X1) rfl rfl rfl (V.loadBox 1 rfl rfl rfl Tryd.isAgg3 Tryd.sizeOf3 rfl rfl) (fun a hf => ?_)
  refine S.val hf hs (v := .int .i64 (w64 (b.X0 - a_.X1))) rfl rfl rfl (V.pure rfl) (fun a hf => ?_)
  refine S.val hf hs (v := .pointer (some ⟨g1, 0, none⟩)) rfl rfl rfl (V.fieldBox rfl rfl Tryd.runUnderlying39 rfl Tryd.sizeOf3 rfl rfl) (fun a hf => ?_)
  refine S.val hf hs (v := .int .i64 a_.X0) rfl rfl rfl (V.loadBox 1 rfl rfl rfl Tryd.isAgg3 Tryd.sizeOf3 rfl rfl) (fun a hf => ?_)
  refine S.val hf hs (v := .pointer (some ⟨g2, 2, none⟩)) rfl rfl rfl (V.fieldBox rfl rfl Tryd.runUnderlying39 rfl Tryd.sizeOf3 rfl rfl) (fun a hf => ?_)
  refine S.val hf hs (v := .int .i64 b.X1) rfl rfl rfl (V.loadBox 0 rfl rfl rfl Tryd.isAgg3 Tryd.sizeOf3 rfl rfl) (fun a hf => ?_)
  refine S.val hf hs (v := .int .i64 (w64 (a_.X0 - b.X1))) rfl rfl rfl (V.pure rfl) (fun a hf => ?_)
  refine S.val hf hs (v := .int .i64 (max (w64 (b.X0 - a_.X1)) (w64 (a_.X0 - b.X1)))) rfl rfl rfl (V.max2 rfl rfl rfl) (fun a hf => ?_)
  refine S.val hf hs (v := .int .i64 (max (w64 (b.X0 - a_.X1)) (w64 (a_.X0 - b.X1)))) rfl rfl rfl (V.pure rfl) (fun a hf => ?_)
  refine R.nil ?_
  refine X.then_ ?_
  refine wp_seq ?_
  refine R.list ?_
  refine S.val hf hs (v := .pointer (some ⟨g2, 1, none⟩)) rfl rfl rfl (V.fieldBox rfl rfl Tryd.runUnderlying39 rfl Tryd.sizeOf3 rfl rfl) (fun a hf => ?_)
  refine S.val hf hs (v := .int .i64 b.Y0) rfl rfl rfl (V.loadBox 0 rfl rfl rfl Tryd.isAgg3 Tryd.sizeOf3 rfl rfl) (fun a hf => ?_)
  refine S.val hf hs (v := .pointer (some ⟨g1, 3, none⟩)) rfl rfl rfl (V.fieldBox rfl rfl Tryd.runUnderlying39 rfl Tryd.sizeOf3 rfl rfl) (fun a hf => ?_)
  refine S.val hf hs (v := .int .i64 a_.Y1) rfl rfl rfl (V.loadBox 1 rfl rfl rfl Tryd.isAgg3 Tryd.sizeOf3 rfl rfl) (fun a hf => ?_)
  refine S.val hf hs (v := .int .i64 (w64 (b.Y0 - a_.Y1))) rfl rfl rfl (V.pure rfl) (fun a hf => ?_)
  refine S.val hf hs (v := .pointer (some ⟨g1, 1, none⟩)) rfl rfl rfl (V.fieldBox rfl rfl Tryd.runUnderlying39 rfl Tryd.sizeOf3 rfl rfl) (fun a hf => ?_)
  refine S.val hf hs (v := .int .i64 a_.Y0) rfl rfl rfl (V.loadBox 1 rfl rfl rfl Tryd.isAgg3 Tryd.sizeOf3 rfl rfl) (fun a hf => ?_)
  refine S.val hf hs (v := .pointer (some ⟨g2, 3, none⟩)) rfl rfl rfl (V.fieldBox rfl rfl Tryd.runUnderlying39 rfl Tryd.sizeOf3 rfl rfl) (fun a hf => ?_)
  refine S.val hf hs (v := .int .i64 b.Y1) rfl rfl rfl (V.loadBox 0 rfl rfl rfl Tryd.isAgg3 Tryd.sizeOf3 rfl rfl) (fun a hf => ?_)
  refine S.val hf hs (v := .int .i64 (w64 (a_.Y0 - b.Y1))) rfl rfl rfl (V.pure rfl) (fun a hf => ?_)
  refine S.val hf hs (v := .int .i64 (max (w64 (b.Y0 - a_.Y1)) (w64 (a_.Y0 - b.Y1)))) rfl rfl rfl (V.max2 rfl rfl rfl) (fun a hf => ?_)
  refine S.val hf hs (v := .int .i64 (max (w64 (b.Y0 - a_.Y1)) (w64 (a_.Y0 - b.Y1)))) rfl rfl rfl (V.pure rfl) (fun a hf => ?_)
  refine R.nil ?_
  refine X.then_ ?_
  refine wp_seq ?_
  refine wp_seq ?_
  refine C.cut (J := fun a w => ∃ (c1 : Bool), M_ref10_between_k1 a_ b Q c1 ∧ FrOk 38 [(5, .int .i64 (max (w64 (b.X0 - a_.X1)) (w64 (a_.X0 - b.X1)))), (6, .int .i64 (max (w64 (b.Y0 - a_.Y1)) (w64 (a_.Y0 - b.Y1)))), (34, .bool c1)] a ∧ Sat w0 none_ [hbox g2 39 [.int .i64 b.X0, .int .i64 b.Y0, .int .i64 b.X1, .int .i64 b.Y1], hbox g1 39 [.int .i64 a_.X0, .int .i64 a_.Y0, .int .i64 a_.X1, .int .i64 a_.Y1]] w) ?_ ?_
  · rintro a w ⟨c1, h, hf, hs⟩
    unfold M_ref10_between_k1 at h
    refine C.cond hf (b := c1) rfl (fun hc => ?_) (fun hc => ?_)
    · replace h := h.1 hc
      refine wp_seq ?_
      refine R.list ?_
      refine S.val hf hs (v := .int .i64 (-1)) rfl rfl rfl (V.pure rfl) (fun a hf => ?_)
      refine R.nil ?_
      refine X.then_ ?_
      refine wp_ret ?_
      refine X.then_ret ?_
      exact L.ret hf (run_results1 Tryd.results52 (ResIs.tmp hf rfl)) ⟨(-1), rfl, h, hs.nil⟩
    · replace h := h.2 hc
      refine wp_skip ?_
      refine X.then_ ?_
      refine wp_seq ?_
      refine R.list ?_
      refine S.val hf hs (v := .int .i64 (max (w64 (b.X0 - a_.X1)) (w64 (a_.X0 - b.X1)))) rfl rfl rfl (V.pure rfl) (fun a hf => ?_)
      refine S.val hf hs (v := .int .i64 (max (w64 (b.Y0 - a_.Y1)) (w64 (a_.Y0 - b.Y1)))) rfl rfl rfl (V.pure rfl) (fun a hf => ?_)
      refine S.val hf hs (v := .int .i64 (max (max (max (w64 (b.X0 - a_.X1)) (w64 (a_.X0 - b.X1))) (max (w64 (b.Y0 - a_.Y1)) (w64 (a_.Y0 - b.Y1)))) 0)) rfl rfl rfl (V.max3 rfl rfl rfl rfl) (fun a hf => ?_)
      refine S.val hf hs (v := .int .i64 (max (max (max (w64 (b.X0 - a_.X1)) (w64 (a_.X0 - b.X1))) (max (w64 (b.Y0 - a_.Y1)) (w64 (a_.Y0 - b.Y1)))) 0)) rfl rfl rfl (V.pure rfl) (fun a hf => ?_)
      refine R.nil ?_
      refine X.then_ ?_
      refine wp_ret ?_
      exact L.ret hf (run_results1 Tryd.results52 (ResIs.tmp hf rfl)) ⟨(max (max (max (w64 (b.X0 - a_.X1)) (w64 (a_.X0 - b.X1))) (max (w64 (b.Y0 - a_.Y1)) (w64 (a_.Y0 - b.Y1)))) 0), rfl, h, hs.nil⟩
  · skip
    refine R.list ?_
    refine S.val hf hs (v := .int .i64 (max (w64 (b.X0 - a_.X1)) (w64 (a_.X0 - b.X1)))) rfl rfl rfl (V.pure rfl) (fun a hf => ?_)
    refine S.val hf hs (v := .bool (decide (max (w64 (b.X0 - a_.X1)) (w64 (a_.X0 - b.X1)) < 0))) rfl rfl rfl (V.pure rfl) (fun a hf => ?_)
    refine S.split hf hs (b := decide (max (w64 (b.X0 - a_.X1)) (w64 (a_.X0 - b.X1)) < 0)) rfl rfl rfl (V.pure rfl) (fun hc a hf => ?_) (fun hc a hf => ?_)
    · replace h := h.1 hc
      refine S.val hf hs (v := .int .i64 (max (w64 (b.Y0 - a_.Y1)) (w64 (a_.Y0 - b.Y1)))) rfl rfl rfl (V.pure rfl) (fun a hf => ?_)
      refine S.val hf hs (v := .bool (decide (max (w64 (b.Y0 - a_.Y1)) (w64 (a_.Y0 - b.Y1)) < 0))) rfl rfl rfl (V.pure rfl) (fun a hf => ?_)
      refine S.val hf hs (v := .bool (decide (max (w64 (b.Y0 - a_.Y1)) (w64 (a_.Y0 - b.Y1)) < 0))) rfl rfl rfl (V.pure rfl) (fun a hf => ?_)
      refine R.nil ?_
      refine X.then_ ?_
      exact ⟨(decide (max (w64 (b.Y0 - a_.Y1)) (w64 (a_.Y0 - b.Y1)) < 0)), h, (((hf.nil.cons (hf.get 34 _ rfl)).cons (hf.get 6 _ rfl)).cons (hf.get 5 _ rfl)), hs⟩
    · replace h := h.2 hc
      refine S.skip hf rfl rfl rfl (fun a hf => ?_)
      refine S.skip hf rfl rfl rfl (fun a hf => ?_)
      refine S.val hf hs (v := .bool false) rfl rfl rfl (V.pure rfl) (fun a hf => ?_)
      refine R.nil ?_
      refine X.then_ ?_
      exact ⟨false, h, (((hf.nil.cons (hf.get 34 _ rfl)).cons (hf.get 6 _ rfl)).cons (hf.get 5 _ rfl)), hs⟩

set_option linter.unusedVariables false
def M_mount_Collisions_k4 (k1 : Nat) (l4 : List Pair) (n2 : Int) (again2 : List Pair → Int → Prop) (n3 : Int) (c1 : Bool) : Prop :=
  cnd c1 (must (room (l4 ++ [(⟨(k1 : Int), n2, n3⟩ : Pair)]).length 24) (again2 (l4 ++ [(⟨(k1 : Int), n2, n3⟩ : Pair)]) (w64 (n2 + 1)))) (again2 l4 (w64 (n2 + 1)))
def M_mount_Collisions_k3 (gap : Int) (k1 : Nat) (xk1 : Place) (l4 : List Pair) (n2 : Int) (again2 : List Pair → Int → Prop) (x1 : Place) (n3 : Int) : Prop :=
  cnd (x1.Below == xk1.Below) (M_mount_Collisions_k4 k1 l4 n2 again2 n3 (decide (n3 < gap))) (M_mount_Collisions_k4 k1 l4 n2 again2 n3 false)
def M_mount_Collisions_L2 (b : (List Body)) (l : (List Place)) (gap : Int) (k1 : Nat) (xk1 : Place) (next1 : List Pair → Prop) (y2 : Rect) (again2 : List Pair → Int → Prop) (l4 : List Pair) (n2 : Int) : Prop :=
  cnd (decide (n2 < (l.length : Int))) (idx l n2 fun x1 => M_mount_taken b x1 fun y3 => cnd (decide (max (max (max (w64 (y2.X0 - y3.X1)) (w64 (y3.X0 - y2.X1))) (w64 (y2.Y0 - y3.Y1))) (w64 (y3.Y0 - y2.Y1)) < 0)) (M_mount_Collisions_k3 gap k1 xk1 l4 n2 again2 x1 (-1)) (M_mount_Collisions_k3 gap k1 xk1 l4 n2 again2 x1 (max (max (max (w64 (y2.X0 - y3.X1)) (w64 (y3.X0 - y2.X1))) (w64 (y2.Y0 - y3.Y1))) (w64 (y3.Y0 - y2.Y1))))) (next1 l4)
def M_mount_Collisions_L1 (b : (List Body)) (l : (List Place)) (gap : Int) (k1 : Nat) (xk1 : Place) (l2 : List Pair) (next1 : List Pair → Prop) : Prop :=
  M_mount_taken b xk1 fun y2 => lp (fun again (s : List Pair × Int) => M_mount_Collisions_L2 b l gap k1 xk1 next1 y2 (fun l4 n2 => again (l4, n2)) s.1 s.2) (l2, ((k1 + 1 : Nat) : Int))
def M_mount_Collisions (b : (List Body)) (l : (List Place)) (gap : Int) (Q : (List Pair) → Int → Prop) : Prop :=
  M_mount_CheckPlaces b l fun y1 => cnd (y1 != 0) (Q ([] : List Pair) y1) (cnd (!(within gap 0 100000)) (Q ([] : List Pair) 1) (forIn' (fun k x (s : List Pair) next => M_mount_Collisions_L1 b l gap k x s (fun l2 => next l2)) (fun (s : List Pair) => (fun (l2 : List Pair) => Q l2 0) s) l 0 ([] : List Pair)))
set_option maxHeartbeats 1000000 in
theorem R_mount_Collisions (b : (List Body)) (l : (List Place)) (gap : Int) (w0 : World) (bA : Option Addr) (bC : Nat) (hv_b : View w0 (old w0 none_) bA bC b) (lA : Option Addr) (lC : Nat) (hv_l : View w0 (old w0 none_) lA lC l) (Q : (List Pair) → Int → Prop) (h : M_mount_Collisions b l gap Q) :
    Ret Tryd.prog 14 #[.slice bA b.length bC, .slice lA l.length lC, .int .i64 gap] w0 fun v w' => ∃ (r0 : (List Pair)) (r0A : Option Addr) (r0C : Nat) (r1 : Int), v = .tuple #[.slice r0A r0.length r0C, .int .i64 r1] ∧ Q r0 r1 ∧ Sat w0 none_ [hown 36 r0A r0C r0] w' := by
  refine fn_enter Tryd.func14 rfl Tryd.ntmps14 rfl (fs := [(0, .slice bA b.length bC), (1, .slice lA l.length lC), (2, .int .i64 gap)]) rfl (fun a hf => ?_)
  have hs := Sat.start w0 none_
  unfold M_mount_Collisions at h
  refine wp_seq ?_
  refine R.list ?_
  refine S.val hf hs (v := .slice none 0 0) rfl rfl rfl (V.pure rfl) (fun a hf => ?_)
  refine S.val hf hs (v := .int .i64 0) rfl rfl rfl (V.pure rfl) (fun a hf => ?_)
  refine R.nil ?_
  refine X.then_ ?_
  refine wp_seq ?_
  refine wp_seq ?_
  refine R.list ?_
  refine S.val hf hs (v := .slice bA b.length bC) rfl rfl rfl (V.pure rfl) (fun a hf => ?_)
  refine S.val hf hs (v := .slice lA l.length lC) rfl rfl rfl (V.pure rfl) (fun a hf => ?_)
  refine S.call hf rfl rfl rfl (call_fn (vs := [.slice bA b.length bC, .slice lA l.length lC]) rfl rfl rfl Tryd.call35) (R_mount_CheckPlaces b l _ bA bC ((Ag.args _ _ _).view hv_b hs) lA lC ((Ag.args _ _ _).view hv_l hs) _ h) (fun v a w' hf hr => ?_)
  obtain ⟨y1, rfl, h2, hs2⟩ := hr
  replace h := h2; replace hs := hs.call hs2; clear h2 hs2
  refine S.val hf hs (v := .int .i64 y1) rfl rfl rfl (V.pure rfl) (fun a hf => ?_)
  refine R.nil ?_
  refine X.then_ ?_
  refine wp_seq ?_
  refine R.list ?_
  refine S.val hf hs (v := .int .i64 y1) rfl rfl rfl (V.pure rfl) (fun a hf => ?_)
  refine S.val hf hs (v := .bool (y1 != 0)) rfl rfl rfl (V.pure rfl) (fun a hf => ?_)
  refine R.nil ?_
  refine X.then_ ?_
  refine C.cond hf (b := y1 != 0) rfl (fun hc => ?_) (fun hc => ?_)
  · replace h := h.1 hc
    refine wp_seq ?_
    refine R.list ?_
    refine S.val hf hs (v := .int .i64 y1) rfl rfl rfl (V.pure rfl) (fun a hf => ?_)
    refine S.val hf hs (v := .slice none 0 0) rfl rfl rfl (V.pure rfl) (fun a hf => ?_)
    refine S.val hf hs (v := .int .i64 y1) rfl rfl rfl (V.pure rfl) (fun a hf => ?_)
    refine R.nil ?_
    refine X.then_ ?_
    refine wp_ret ?_
    refine X.then_ret ?_
    replace hs := hs.nilOwn (α := Pair) 36
    replace hs := hs.take 1
    exact L.ret hf (run_results2 Tryd.results14 (ResIs.tmp hf rfl) (ResIs.tmp hf rfl)) ⟨([] : List Pair), none, 0, y1, rfl, h, hs⟩
  · replace h := h.2 hc
    refine wp_skip ?_
    refine X.then_ ?_
    refine wp_seq ?_
    refine wp_seq ?_
    refine R.list ?_
    refine S.val hf hs (v := .int .i64 gap) rfl rfl rfl (V.pure rfl) (fun a hf => ?_)
    refine S.callv hf rfl rfl rfl (call_fn (vs := [.int .i64 gap, .int .i64 0, .int .i64 100000]) rfl rfl rfl Tryd.call47) (C_mount_within gap 0 100000 _ ) (fun a w hf hs' => ?_)
    replace hs := hs.call hs'; clear hs'
    refine S.val hf hs (v := .bool (!(within gap 0 100000))) rfl rfl rfl (V.pure rfl) (fun a hf => ?_)
    refine R.nil ?_
    refine X.then_ ?_
    refine C.cond hf (b := !(within gap 0 100000)) rfl (fun hc => ?_) (fun hc => ?_)
    · replace h := h.1 hc
      refine wp_seq ?_
      refine R.list ?_
      refine S.val hf hs (v := .slice none 0 0) rfl rfl rfl (V.pure rfl) (fun a hf => ?_)
      refine S.val hf hs (v := .int .i64 1) rfl rfl rfl (V.pure rfl) (fun a hf => ?_)
      refine R.nil ?_
      refine X.then_ ?_
      refine wp_ret ?_
      refine X.then_ret ?_
      replace hs := hs.nilOwn (α := Pair) 36
      replace hs := hs.take 1
      exact L.ret hf (run_results2 Tryd.results14 (ResIs.tmp hf rfl) (ResIs.tmp hf rfl)) ⟨([] : List Pair), none, 0, 1, rfl, h, hs⟩
    · replace h := h.2 hc
      refine wp_skip ?_
      refine X.then_ ?_
      refine wp_seq ?_
      refine R.list ?_
      refine S.val hf hs (v := .slice none 0 0) rfl rfl rfl (V.pure rfl) (fun a hf => ?_)
      refine R.nil ?_
      refine X.then_ ?_
      refine wp_seq ?_
      refine wp_seq ?_
      refine R.list ?_
      refine S.val hf hs (v := .slice lA l.length lC) rfl rfl rfl (V.pure rfl) (fun a hf => ?_)
      refine S.val hf hs (v := .int .i64 (l.length : Int)) rfl rfl rfl (V.len rfl rfl Tryd.runUnderlying23) (fun a hf => ?_)
      refine S.val hf hs (v := .int .i64 0) rfl rfl rfl (V.pure rfl) (fun a hf => ?_)
      refine R.nil ?_
      refine X.then_ ?_
      refine wp_block ?_
      replace hs := hs.nilOwn (α := Pair) 36
      have hlenk1 := hv_l.len64
      refine C.range (fun (ll : List Place) a w => ∃ (k1 : Nat) (l2 : List Pair) (l2A : Option Addr) (l2C : Nat), l.drop k1 = ll ∧ k1 + ll.length = l.length ∧ forIn' (fun k x (s : List Pair) next => M_mount_Collisions_L1 b l gap k x s (fun l2 => next l2)) (fun (s : List Pair) => (fun (l2 : List Pair) => Q l2 0) s) ll k1 l2 ∧ FrOk 94 [(27, .int .i64 (k1 : Int)), (0, .slice bA b.length bC), (1, .slice lA l.length lC), (2, .int .i64 gap), (9, .slice l2A l2.length l2C), (25, .slice lA l.length lC), (26, .int .i64 (l.length : Int))] a ∧ Sat w0 none_ [hown 36 l2A l2C l2] w) l ⟨0, ([] : List Pair), none, 0, rfl, Nat.zero_add _, h, (((((((hf.nil.cons (hf.get 26 _ rfl)).cons (hf.get 25 _ rfl)).cons (hf.get 9 _ rfl)).cons (hf.get 2 _ rfl)).cons (hf.get 1 _ rfl)).cons (hf.get 0 _ rfl)).cons (hf.get 27 _ rfl)), hs⟩ ?_
      clear h hf hs
      rintro llk1 a w ⟨k1, l2, l2A, l2C, hlk1, hkk1, h, hf, hs⟩
      cases llk1 with
      | nil =>
        have hc := range_done hkk1
        replace h : (fun (l2 : List Pair) => Q l2 0) l2 := h
        refine wp_seq ?_
        refine R.list ?_
        refine S.val hf hs (v := .bool false) rfl rfl rfl (V.cmp false rfl rfl rfl rfl hc) (fun a hf => ?_)
        refine R.nil ?_
        refine X.then_ ?_
        refine wp_seq ?_
        refine C.no hf rfl ?_
        refine wp_exit ?_
        refine X.then_exit ?_
        refine X.then_exit ?_
        refine X.blk_exit ?_
        refine X.then_ ?_
        refine wp_seq ?_
        refine R.list ?_
        refine S.val hf hs (v := .slice l2A l2.length l2C) rfl rfl rfl (V.pure rfl) (fun a hf => ?_)
        refine S.val hf hs (v := .slice l2A l2.length l2C) rfl rfl rfl (V.pure rfl) (fun a hf => ?_)
        refine S.val hf hs (v := .int .i64 0) rfl rfl rfl (V.pure rfl) (fun a hf => ?_)
        refine R.nil ?_
        refine X.then_ ?_
        refine wp_ret ?_
        replace hs := hs.take 1
        exact L.ret hf (run_results2 Tryd.results14 (ResIs.tmp hf rfl) (ResIs.tmp hf rfl)) ⟨l2, l2A, l2C, 0, rfl, h, hs⟩
      | cons xk1 llk1 =>
        have hltk1 := range_lt hkk1; have hc := range_go hkk1; have hxk1 := range_get hlk1
        obtain ⟨next1, hnext1⟩ : ∃ X : List Pair → Prop, X = (fun l2 => forIn' (fun k x (s : List Pair) next => M_mount_Collisions_L1 b l gap k x s (fun l2 => next l2)) (fun (s : List Pair) => (fun (l2 : List Pair) => Q l2 0) s) llk1 (k1 + 1) l2) := ⟨_, rfl⟩
        replace h : M_mount_Collisions_L1 b l gap k1 xk1 l2 next1 := by rw [hnext1]; exact h
        unfold M_mount_Collisions_L1 at h
        refine wp_seq ?_
        refine R.list ?_
        refine S.val hf hs (v := .bool true) rfl rfl rfl (V.cmp true rfl rfl rfl rfl hc) (fun a hf => ?_)
        refine R.nil ?_
        refine X.then_ ?_
        refine wp_seq ?_
        refine C.yes hf rfl ?_
        refine wp_skip ?_
        refine X.then_ ?_
        refine wp_seq ?_
        refine wp_block ?_
        refine wp_seq ?_
        refine R.list ?_
        refine S.val hf hs (v := .int .i64 (k1 : Int)) rfl rfl rfl (V.pure rfl) (fun a hf => ?_)
        refine S.val hf hs (v := elemPtr lA (k1 * 6)) rfl rfl rfl (V.index rfl rfl rfl Tryd.runUnderlying23 Tryd.sizeOf28 (hv_l.some_ (lt_of_get hxk1)) (Int.natCast_nonneg _) (lt_of_get hxk1) rfl) (fun a hf => ?_)
        refine S.val hf hs (v := .agg #[.string (ba xk1.Part), .string (ba xk1.Typ), .int .i64 xk1.At.X, .int .i64 xk1.At.Y, .int .i64 xk1.Quarters, .bool xk1.Below]) rfl rfl rfl (V.loadEl (off := 0) (Ag.args _ _ _) (hv_l.flat hxk1) rfl rfl rfl Tryd.isAgg28 Tryd.sizeOf28 rfl rfl) (fun a hf => ?_)
        refine S.alloc hf hs rfl rfl rfl [.string (ba []), .string (ba []), .int .i64 0, .int .i64 0, .int .i64 0, .bool false] rfl Tryd.zeroValue28 rfl (fun g1 a w hf hs => ?_)
        refine S.val hf hs (v := .int .i64 (k1 : Int)) rfl rfl rfl (V.pure rfl) (fun a hf => ?_)
        refine S.storeBox 0 hf hs rfl rfl [.string (ba xk1.Part), .string (ba xk1.Typ), .int .i64 xk1.At.X, .int .i64 xk1.At.Y, .int .i64 xk1.Quarters, .bool xk1.Below] [.string (ba xk1.Part), .string (ba xk1.Typ), .int .i64 xk1.At.X, .int .i64 xk1.At.Y, .int .i64 xk1.Quarters, .bool xk1.Below] rfl rfl rfl rfl rfl Tryd.sizeOf28 rfl rfl rfl rfl (fun a w hf hs => ?_)
        refine R.nil ?_
        refine X.then_ ?_
        refine wp_seq ?_
        refine R.list ?_
        refine S.val hf hs (v := .slice bA b.length bC) rfl rfl rfl (V.pure rfl) (fun a hf => ?_)
        refine S.val hf hs (v := .agg #[.string (ba xk1.Part), .string (ba xk1.Typ), .int .i64 xk1.At.X, .int .i64 xk1.At.Y, .int .i64 xk1.Quarters, .bool xk1.Below]) rfl rfl rfl (V.loadBox 0 rfl rfl rfl Tryd.isAgg28 Tryd.sizeOf28 rfl rfl) (fun a hf => ?_)
        refine S.call hf rfl rfl rfl (call_fn (vs := [.slice bA b.length bC, .agg #[.string (ba xk1.Part), .string (ba xk1.Typ), .int .i64 xk1.At.X, .int .i64 xk1.At.Y, .int .i64 xk1.Quarters, .bool xk1.Below]]) rfl rfl rfl Tryd.call48) (R_mount_taken b xk1 _ bA bC ((Ag.args _ _ _).view hv_b hs) _ h) (fun v a w' hf hr => ?_)
        obtain ⟨y2, rfl, h2, hs2⟩ := hr
        replace h := h2; replace hs := hs.call hs2; clear h2 hs2
        refine S.alloc hf hs rfl rfl rfl [.int .i64 0, .int .i64 0, .int .i64 0, .int .i64 0] rfl Tryd.zeroValue39 rfl (fun g2 a w hf hs => ?_)
        refine S.storeBox 0 hf hs rfl rfl [.int .i64 y2.X0, .int .i64 y2.Y0, .int .i64 y2.X1, .int .i64 y2.Y1] [.int .i64 y2.X0, .int .i64 y2.Y0, .int .i64 y2.X1, .int .i64 y2.Y1] rfl rfl rfl rfl rfl Tryd.sizeOf39 rfl rfl rfl rfl (fun a w hf hs => ?_)
        refine R.nil ?_
        refine X.then_ ?_
        refine wp_seq ?_
        refine R.list ?_
        refine S.val hf hs (v := .int .i64 (k1 : Int)) rfl rfl rfl (V.pure rfl) (fun a hf => ?_)
        refine S.val hf hs (v := .int .i64 ((k1 + 1 : Nat) : Int)) rfl rfl rfl (V.incr rfl rfl rfl hltk1 hlenk1) (fun a hf => ?_)
        refine S.val hf hs (v := .int .i64 ((k1 + 1 : Nat) : Int)) rfl rfl rfl (V.pure rfl) (fun a hf => ?_)
        refine R.nil ?_
        refine X.then_ ?_
        refine wp_block ?_
        obtain ⟨kk, h⟩ := h
        refine C.loop (fun kk a w => ∃ (l4 : List Pair) (l4A : Option Addr) (l4C : Nat) (n2 : Int), iterF (fun again (s : List Pair × Int) => M_mount_Collisions_L2 b l gap k1 xk1 next1 y2 (fun l4 n2 => again (l4, n2)) s.1 s.2) kk (l4, n2) ∧ FrOk 94 [(0, .slice bA b.length bC), (1, .slice lA l.length lC), (2, .int .i64 gap), (9, .slice l4A l4.length l4C), (10, .int .i64 (k1 : Int)), (11, .pointer (some ⟨g1, 0, none⟩)), (12, .pointer (some ⟨g2, 0, none⟩)), (13, .int .i64 n2), (25, .slice lA l.length lC), (26, .int .i64 (l.length : Int)), (27, .int .i64 (k1 : Int))] a ∧ Sat w0 none_ [hbox g2 39 [.int .i64 y2.X0, .int .i64 y2.Y0, .int .i64 y2.X1, .int .i64 y2.Y1], hbox g1 28 [.string (ba xk1.Part), .string (ba xk1.Typ), .int .i64 xk1.At.X, .int .i64 xk1.At.Y, .int .i64 xk1.Quarters, .bool xk1.Below], hown 36 l4A l4C l4] w) kk ⟨l2, l2A, l2C, ((k1 + 1 : Nat) : Int), h, (((((((((((hf.nil.cons (hf.get 27 _ rfl)).cons (hf.get 26 _ rfl)).cons (hf.get 25 _ rfl)).cons (hf.get 13 _ rfl)).cons (hf.get 12 _ rfl)).cons (hf.get 11 _ rfl)).cons (hf.get 10 _ rfl)).cons (hf.get 9 _ rfl)).cons (hf.get 2 _ rfl)).cons (hf.get 1 _ rfl)).cons (hf.get 0 _ rfl)), hs⟩ (fun a w ⟨_, _, _, _, h, _, _⟩ => h) ?_
        clear h hf hs
        rintro kk a w ⟨l4, l4A, l4C, n2, h, hf, hs⟩
        obtain ⟨again2, hagain2⟩ : ∃ X : List Pair → Int → Prop, X = (fun l4 n2 => iterF (fun again (s : List Pair × Int) => M_mount_Collisions_L2 b l gap k1 xk1 next1 y2 (fun l4 n2 => again (l4, n2)) s.1 s.2) kk (l4, n2)) := ⟨_, rfl⟩
        replace h : M_mount_Collisions_L2 b l gap k1 xk1 next1 y2 again2 l4 n2 := by rw [hagain2]; exact h
        unfold M_mount_Collisions_L2 at h
        refine wp_seq ?_
        refine wp_seq ?_
        refine R.list ?_
        refine S.val hf hs (v := .int .i64 n2) rfl rfl rfl (V.pure rfl) (fun a hf => ?_)
        refine S.val hf hs (v := .slice lA l.length lC) rfl rfl rfl (V.pure rfl) (fun a hf => ?_)
        refine S.val hf hs (v := .int .i64 (l.length : Int)) rfl rfl rfl (V.len rfl rfl Tryd.runUnderlying23) (fun a hf => ?_)
        refine S.val hf hs (v := .bool (decide (n2 < (l.length : Int)))) rfl rfl rfl (V.pure rfl) (fun a hf => ?_)
        refine R.nil ?_
        refine X.then_ ?_
        refine C.cond hf (b := decide (n2 < (l.length : Int))) rfl (fun hc => ?_) (fun hc => ?_)
        · replace h := h.1 hc
          refine wp_skip ?_
          refine X.then_ ?_
          refine wp_seq ?_
          refine wp_block ?_
          refine wp_seq ?_
          refine R.list ?_
          refine S.val hf hs (v := .slice bA b.length bC) rfl rfl rfl (V.pure rfl) (fun a hf => ?_)
          refine S.val hf hs (v := .slice lA l.length lC) rfl rfl rfl (V.pure rfl) (fun a hf => ?_)
          refine S.val hf hs (v := .int .i64 n2) rfl rfl rfl (V.pure rfl) (fun a hf => ?_)
          obtain ⟨h0x1, x1, hx1, h⟩ := h
          refine S.val hf hs (v := elemPtr lA (n2.toNat * 6)) rfl rfl rfl (V.index rfl rfl rfl Tryd.runUnderlying23 Tryd.sizeOf28 (hv_l.some_ (lt_of_get hx1)) h0x1 (lt_of_get hx1) rfl) (fun a hf => ?_)
          refine S.val hf hs (v := .agg #[.string (ba x1.Part), .string (ba x1.Typ), .int .i64 x1.At.X, .int .i64 x1.At.Y, .int .i64 x1.Quarters, .bool x1.Below]) rfl rfl rfl (V.loadEl (off := 0) (Ag.args _ _ _) (hv_l.flat hx1) rfl rfl rfl Tryd.isAgg28 Tryd.sizeOf28 rfl rfl) (fun a hf => ?_)
          refine S.call hf rfl rfl rfl (call_fn (vs := [.slice bA b.length bC, .agg #[.string (ba x1.Part), .string (ba x1.Typ), .int .i64 x1.At.X, .int .i64 x1.At.Y, .int .i64 x1.Quarters, .bool x1.Below]]) rfl rfl rfl Tryd.call48) (R_mount_taken b x1 _ bA bC ((Ag.args _ _ _).view hv_b hs) _ h) (fun v a w' hf hr => ?_)
          obtain ⟨y3, rfl, h2, hs2⟩ := hr
          replace h := h2; replace hs := hs.call hs2; clear h2 hs2
          refine S.alloc hf hs rfl rfl rfl [.int .i64 0, .int .i64 0, .int .i64 0, .int .i64 0] rfl Tryd.zeroValue39 rfl (fun g3 a w hf hs => ?_)
          refine S.storeBox 0 hf hs rfl rfl [.int .i64 y3.X0, .int .i64 y3.Y0, .int .i64 y3.X1, .int .i64 y3.Y1] [.int .i64 y3.X0, .int .i64 y3.Y0, .int .i64 y3.X1, .int .i64 y3.Y1] rfl rfl rfl rfl rfl Tryd.sizeOf39 rfl rfl rfl rfl (fun a w hf hs => ?_)
          refine R.nil ?_
          refine X.then_ ?_
          refine wp_seq ?_
          refine R.list ?_
          refine S.val hf hs (v := .pointer (some ⟨g2, 0, none⟩)) rfl rfl rfl (V.fieldBox rfl rfl Tryd.runUnderlying39 rfl Tryd.sizeOf3 rfl rfl) (fun a hf => ?_)
          refine S.val hf hs (v := .int .i64 y2.X0) rfl rfl rfl (V.loadBox 1 rfl rfl rfl Tryd.isAgg3 Tryd.sizeOf3 rfl rfl) (fun a hf => ?_)
          refine S.val hf hs (v := .pointer (some ⟨g3, 2, none⟩)) rfl rfl rfl (V.fieldBox rfl rfl Tryd.runUnderlying39 rfl Tryd.sizeOf3 rfl rfl) (fun a hf => ?_)
          refine S.val hf hs (v := .int .i64 y3.X1) rfl rfl rfl (V.loadBox 0 rfl rfl rfl Tryd.isAgg3 Tryd.sizeOf3 rfl rfl) (fun a hf => ?_)
          refine S.val hf hs (v := .int .i64 (w64 (y2.X0 - y3.X1))) rfl rfl rfl (V.pure rfl) (fun a hf => ?_)
          refine S.val hf hs (v := .pointer (some ⟨g3, 0, none⟩)) rfl rfl rfl (V.fieldBox rfl rfl Tryd.runUnderlying39 rfl Tryd.sizeOf3 rfl rfl) (fun a hf => ?_)
          refine S.val hf hs (v := .int .i64 y3.X0) rfl rfl rfl (V.loadBox 0 rfl rfl rfl Tryd.isAgg3 Tryd.sizeOf3 rfl rfl) (fun a hf => ?_)
          refine S.val hf hs (v := .pointer (some ⟨g2, 2, none⟩)) rfl rfl rfl (V.fieldBox rfl rfl Tryd.runUnderlying39 rfl Tryd.sizeOf3 rfl rfl) (fun a hf => ?_)
          refine S.val hf hs (v := .int .i64 y2.X1) rfl rfl rfl (V.loadBox 1 rfl rfl rfl Tryd.isAgg3 Tryd.sizeOf3 rfl rfl) (fun a hf => ?_)
          refine S.val hf hs (v := .int .i64 (w64 (y3.X0 - y2.X1))) rfl rfl rfl (V.pure rfl) (fun a hf => ?_)
          refine S.val hf hs (v := .pointer (some ⟨g2, 1, none⟩)) rfl rfl rfl (V.fieldBox rfl rfl Tryd.runUnderlying39 rfl Tryd.sizeOf3 rfl rfl) (fun a hf => ?_)
          refine S.val hf hs (v := .int .i64 y2.Y0) rfl rfl rfl (V.loadBox 1 rfl rfl rfl Tryd.isAgg3 Tryd.sizeOf3 rfl rfl) (fun a hf => ?_)
          refine S.val hf hs (v := .pointer (some ⟨g3, 3, none⟩)) rfl rfl rfl (V.fieldBox rfl rfl Tryd.runUnderlying39 rfl Tryd.sizeOf3 rfl rfl) (fun a hf => ?_)
          refine S.val hf hs (v := .int .i64 y3.Y1) rfl rfl rfl (V.loadBox 0 rfl rfl rfl Tryd.isAgg3 Tryd.sizeOf3 rfl rfl) (fun a hf => ?_)
          refine S.val hf hs (v := .int .i64 (w64 (y2.Y0 - y3.Y1))) rfl rfl rfl (V.pure rfl) (fun a hf => ?_)
          refine S.val hf hs (v := .pointer (some ⟨g3, 1, none⟩)) rfl rfl rfl (V.fieldBox rfl rfl Tryd.runUnderlying39 rfl Tryd.sizeOf3 rfl rfl) (fun a hf => ?_)
          refine S.val hf hs (v := .int .i64 y3.Y0) rfl rfl rfl (V.loadBox 0 rfl rfl rfl Tryd.isAgg3 Tryd.sizeOf3 rfl rfl) (fun a hf => ?_)
          refine S.val hf hs (v := .pointer (some ⟨g2, 3, none⟩)) rfl rfl rfl (V.fieldBox rfl rfl Tryd.runUnderlying39 rfl Tryd.sizeOf3 rfl rfl) (fun a hf => ?_)
          refine S.val hf hs (v := .int .i64 y2.Y1) rfl rfl rfl (V.loadBox 1 rfl rfl rfl Tryd.isAgg3 Tryd.sizeOf3 rfl rfl) (fun a hf => ?_)
          refine S.val hf hs (v := .int .i64 (w64 (y3.Y0 - y2.Y1))) rfl rfl rfl (V.pure rfl) (fun a hf => ?_)
          refine S.val hf hs (v := .int .i64 (max (max (max (w64 (y2.X0 - y3.X1)) (w64 (y3.X0 - y2.X1))) (w64 (y2.Y0 - y3.Y1))) (w64 (y3.Y0 - y2.Y1)))) rfl rfl rfl (V.max4 rfl rfl rfl rfl rfl) (fun a hf => ?_)
          refine S.val hf hs (v := .int .i64 (max (max (max (w64 (y2.X0 - y3.X1)) (w64 (y3.X0 - y2.X1))) (w64 (y2.Y0 - y3.Y1))) (w64 (y3.Y0 - y2.Y1)))) rfl rfl rfl (V.pure rfl) (fun a hf => ?_)
          refine R.nil ?_
          refine X.then_ ?_
          refine wp_seq ?_
          refine C.cut (J := fun a w => ∃ (n3 : Int), M_mount_Collisions_k3 gap k1 xk1 l4 n2 again2 x1 n3 ∧ FrOk 94 [(0, .slice bA b.length bC), (1, .slice lA l.length lC), (2, .int .i64 gap), (9, .slice l4A l4.length l4C), (10, .int .i64 (k1 : Int)), (11, .pointer (some ⟨g1, 0, none⟩)), (12, .pointer (some ⟨g2, 0, none⟩)), (13, .int .i64 n2), (15, .int .i64 n3), (25, .slice lA l.length lC), (26, .int .i64 (l.length : Int)), (27, .int .i64 (k1 : Int))] a ∧ Sat w0 none_ [hbox g3 39 [.int .i64 y3.X0, .int .i64 y3.Y0, .int .i64 y3.X1, .int .i64 y3.Y1], hbox g2 39 [.int .i64 y2.X0, .int .i64 y2.Y0, .int .i64 y2.X1, .int .i64 y2.Y1], hbox g1 28 [.string (ba xk1.Part), .string (ba xk1.Typ), .int .i64 xk1.At.X, .int .i64 xk1.At.Y, .int .i64 xk1.Quarters, .bool xk1.Below], hown 36 l4A l4C l4] w) ?_ ?_
          · rintro a w ⟨n3, h, hf, hs⟩
            unfold M_mount_Collisions_k3 at h
            refine wp_seq ?_
            refine C.cut (J := fun a w => ∃ (c1 : Bool), M_mount_Collisions_k4 k1 l4 n2 again2 n3 c1 ∧ FrOk 94 [(0, .slice bA b.length bC), (1, .slice lA l.length lC), (2, .int .i64 gap), (9, .slice l4A l4.length l4C), (10, .int .i64 (k1 : Int)), (11, .pointer (some ⟨g1, 0, none⟩)), (12, .pointer (some ⟨g2, 0, none⟩)), (13, .int .i64 n2), (15, .int .i64 n3), (25, .slice lA l.length lC), (26, .int .i64 (l.length : Int)), (27, .int .i64 (k1 : Int)), (84, .bool c1)] a ∧ Sat w0 none_ [hbox g3 39 [.int .i64 y3.X0, .int .i64 y3.Y0, .int .i64 y3.X1, .int .i64 y3.Y1], hbox g2 39 [.int .i64 y2.X0, .int .i64 y2.Y0, .int .i64 y2.X1, .int .i64 y2.Y1], hbox g1 28 [.string (ba xk1.Part), .string (ba xk1.Typ), .int .i64 xk1.At.X, .int .i64 xk1.At.Y, .int .i64 xk1.Quarters, .bool xk1.Below], hown 36 l4A l4C l4] w) ?_ ?_
            · rintro a w ⟨c1, h, hf, hs⟩
              unfold M_mount_Collisions_k4 at h
              refine C.cond hf (b := c1) rfl (fun hc => ?_) (fun hc => ?_)
              · replace h := h.1 hc
                refine R.list ?_
                refine S.val hf hs (v := .slice l4A l4.length l4C) rfl rfl rfl (V.pure rfl) (fun a hf => ?_)
                refine S.val hf hs (v := .int .i64 (k1 : Int)) rfl rfl rfl (V.pure rfl) (fun a hf => ?_)
                refine S.val hf hs (v := .int .i64 n2) rfl rfl rfl (V.pure rfl) (fun a hf => ?_)
                refine S.val hf hs (v := .int .i64 n3) rfl rfl rfl (V.pure rfl) (fun a hf => ?_)
                refine S.val hf hs (v := .agg #[.int .i64 (k1 : Int), .int .i64 n2, .int .i64 n3]) rfl rfl rfl (V.build (places := #[(0, 1), (1, 1), (2, 1)]) rfl Tryd.zeroValue36 Tryd.runUnderlying36 (by intro w; simp [Tryd.sizeOf3]) rfl rfl) (fun a hf => ?_)
                refine S.build1 hf hs rfl rfl rfl (α := Pair) (⟨(k1 : Int), n2, n3⟩ : Pair) rfl rfl rfl Tryd.runUnderlying30 Tryd.sizeOf36 Tryd.zeroValue36 rfl (by decide) (fun A1 a w hf hs => ?_)
                obtain ⟨hroom, h⟩ := h
                refine S.appendCells 4 hf hs rfl rfl rfl rfl rfl rfl rfl Tryd.underlying30 info36 rfl hroom ((hs.ownView 0 rfl).some_ (i := 0) (by simp)) (hs.ownView 0 rfl) (fun A2 C1 a w hf hs => ?_)
                replace hs := hs.drop
                refine S.val hf hs (v := .slice A2 (l4 ++ [(⟨(k1 : Int), n2, n3⟩ : Pair)]).length C1) rfl rfl rfl (V.pure rfl) (fun a hf => ?_)
                refine R.nil ?_
                refine X.blk ?_
                refine X.then_ ?_
                refine R.list ?_
                refine S.val hf hs (v := .int .i64 n2) rfl rfl rfl (V.pure rfl) (fun a hf => ?_)
                refine S.val hf hs (v := .int .i64 (w64 (n2 + 1))) rfl rfl rfl (V.pure rfl) (fun a hf => ?_)
                refine S.val hf hs (v := .int .i64 (w64 (n2 + 1))) rfl rfl rfl (V.pure rfl) (fun a hf => ?_)
                refine R.nil ?_
                refine X.then_ ?_
                exact ⟨(l4 ++ [(⟨(k1 : Int), n2, n3⟩ : Pair)]), A2, C1, (w64 (n2 + 1)), (by rw [hagain2] at h; exact h), (((((((((((hf.nil.cons (hf.get 27 _ rfl)).cons (hf.get 26 _ rfl)).cons (hf.get 25 _ rfl)).cons (hf.get 13 _ rfl)).cons (hf.get 12 _ rfl)).cons (hf.get 11 _ rfl)).cons (hf.get 10 _ rfl)).cons (hf.get 9 _ rfl)).cons (hf.get 2 _ rfl)).cons (hf.get 1 _ rfl)).cons (hf.get 0 _ rfl)), hs.drop⟩
              · replace h := h.2 hc
                refine wp_skip ?_
                refine X.blk ?_
                refine X.then_ ?_
                refine R.list ?_
                refine S.val hf hs (v := .int .i64 n2) rfl rfl rfl (V.pure rfl) (fun a hf => ?_)
                refine S.val hf hs (v := .int .i64 (w64 (n2 + 1))) rfl rfl rfl (V.pure rfl) (fun a hf => ?_)
                refine S.val hf hs (v := .int .i64 (w64 (n2 + 1))) rfl rfl rfl (V.pure rfl) (fun a hf => ?_)
                refine R.nil ?_
                refine X.then_ ?_
                exact ⟨l4, l4A, l4C, (w64 (n2 + 1)), (by rw [hagain2] at h; exact h), (((((((((((hf.nil.cons (hf.get 27 _ rfl)).cons (hf.get 26 _ rfl)).cons (hf.get 25 _ rfl)).cons (hf.get 13 _ rfl)).cons (hf.get 12 _ rfl)).cons (hf.get 11 _ rfl)).cons (hf.get 10 _ rfl)).cons (hf.get 9 _ rfl)).cons (hf.get 2 _ rfl)).cons (hf.get 1 _ rfl)).cons (hf.get 0 _ rfl)), hs.drop⟩
            · skip
              refine R.draw mo (by kernel_rfl) hs ?_
              refine D.val hf (v := .slice lA l.length lC) rfl rfl rfl (V.pure rfl) (fun a hf => ?_)
              refine D.val hf (v := .int .i64 n2) rfl rfl rfl (V.pure rfl) (fun a hf => ?_)
              refine D.val hf (v := elemPtr lA (n2.toNat * 6)) rfl rfl rfl (V.index rfl rfl rfl Tryd.runUnderlying23 Tryd.sizeOf28 (hv_l.some_ (lt_of_get hx1)) h0x1 (lt_of_get hx1) rfl) (fun a hf => ?_)
              refine D.val hf (v := elemPtr lA (n2.toNat * 6 + 5)) rfl rfl rfl (V.fieldEl rfl rfl (hv_l.some_ (lt_of_get hx1)) Tryd.runUnderlying28 rfl Tryd.sizeOf4 rfl rfl) (fun a hf => ?_)
              refine D.val hf (v := .bool x1.Below) rfl rfl rfl (V.loadEl (off := 5) (Ag.args _ _ _) (hv_l.flat hx1) rfl rfl rfl Tryd.isAgg4 Tryd.sizeOf4 rfl rfl) (fun a hf => ?_)
              refine D.val hf (v := .pointer (some ⟨g1, 5, none⟩)) rfl rfl rfl (V.fieldBox rfl rfl Tryd.runUnderlying28 rfl Tryd.sizeOf4 rfl rfl) (fun a hf => ?_)
              refine D.val hf (v := .bool xk1.Below) rfl rfl rfl (V.loadBox 2 rfl rfl rfl Tryd.isAgg4 Tryd.sizeOf4 rfl rfl) (fun a hf => ?_)
              refine D.val hf (v := .bool (x1.Below == xk1.Below)) rfl rfl rfl (V.boolEq rfl rfl rfl Tryd.underlying4 rfl) (fun a hf => ?_)
              refine D.split hf (b := x1.Below == xk1.Below) rfl rfl rfl (V.pure rfl) (fun hc a hf => ?_) (fun hc a hf => ?_)
              · replace h := h.1 hc
                refine D.val hf (v := .int .i64 n3) rfl rfl rfl (V.pure rfl) (fun a hf => ?_)
                refine D.val hf (v := .int .i64 gap) rfl rfl rfl (V.pure rfl) (fun a hf => ?_)
                refine D.val hf (v := .bool (decide (n3 < gap))) rfl rfl rfl (V.pure rfl) (fun a hf => ?_)
                refine D.val hf (v := .bool (decide (n3 < gap))) rfl rfl rfl (V.pure rfl) (fun a hf => ?_)
                refine D.done (fun w hs => ?_)
                refine X.then_ ?_
                exact ⟨(decide (n3 < gap)), h, (((((((((((((hf.nil.cons (hf.get 84 _ rfl)).cons (hf.get 27 _ rfl)).cons (hf.get 26 _ rfl)).cons (hf.get 25 _ rfl)).cons (hf.get 15 _ rfl)).cons (hf.get 13 _ rfl)).cons (hf.get 12 _ rfl)).cons (hf.get 11 _ rfl)).cons (hf.get 10 _ rfl)).cons (hf.get 9 _ rfl)).cons (hf.get 2 _ rfl)).cons (hf.get 1 _ rfl)).cons (hf.get 0 _ rfl)), hs⟩
              · replace h := h.2 hc
                refine D.skip hf rfl rfl rfl (fun a hf => ?_)
                refine D.skip hf rfl rfl rfl (fun a hf => ?_)
                refine D.skip hf rfl rfl rfl (fun a hf => ?_)
                refine D.val hf (v := .bool false) rfl rfl rfl (V.pure rfl) (fun a hf => ?_)
                refine D.done (fun w hs => ?_)
                refine X.then_ ?_
                exact ⟨false, h, (((((((((((((hf.nil.cons (hf.get 84 _ rfl)).cons (hf.get 27 _ rfl)).cons (hf.get 26 _ rfl)).cons (hf.get 25 _ rfl)).cons (hf.get 15 _ rfl)).cons (hf.get 13 _ rfl)).cons (hf.get 12 _ rfl)).cons (hf.get 11 _ rfl)).cons (hf.get 10 _ rfl)).cons (hf.get 9 _ rfl)).cons (hf.get 2 _ rfl)).cons (hf.get 1 _ rfl)).cons (hf.get 0 _ rfl)), hs⟩
          · skip
            refine wp_seq ?_
            refine R.list ?_
            refine S.val hf hs (v := .int .i64 (max (max (max (w64 (y2.X0 - y3.X1)) (w64 (y3.X0 - y2.X1))) (w64 (y2.Y0 - y3.Y1))) (w64 (y3.Y0 - y2.Y1)))) rfl rfl rfl (V.pure rfl) (fun a hf => ?_)
            refine S.val hf hs (v := .bool (decide (max (max (max (w64 (y2.X0 - y3.X1)) (w64 (y3.X0 - y2.X1))) (w64 (y2.Y0 - y3.Y1))) (w64 (y3.Y0 - y2.Y1)) < 0))) rfl rfl rfl (V.pure rfl) (fun a hf => ?_)
            refine R.nil ?_
            refine X.then_ ?_
            refine C.cond hf (b := decide (max (max (max (w64 (y2.X0 - y3.X1)) (w64 (y3.X0 - y2.X1))) (w64 (y2.Y0 - y3.Y1))) (w64 (y3.Y0 - y2.Y1)) < 0)) rfl (fun hc => ?_) (fun hc => ?_)
            · replace h := h.1 hc
              refine R.list ?_
              refine S.val hf hs (v := .int .i64 (-1)) rfl rfl rfl (V.pure rfl) (fun a hf => ?_)
              refine R.nil ?_
              refine X.then_ ?_
              exact ⟨(-1), h, ((((((((((((hf.nil.cons (hf.get 27 _ rfl)).cons (hf.get 26 _ rfl)).cons (hf.get 25 _ rfl)).cons (hf.get 15 _ rfl)).cons (hf.get 13 _ rfl)).cons (hf.get 12 _ rfl)).cons (hf.get 11 _ rfl)).cons (hf.get 10 _ rfl)).cons (hf.get 9 _ rfl)).cons (hf.get 2 _ rfl)).cons (hf.get 1 _ rfl)).cons (hf.get 0 _ rfl)), hs⟩
            · replace h := h.2 hc
              refine wp_skip ?_
              refine X.then_ ?_
              exact ⟨(max (max (max (w64 (y2.X0 - y3.X1)) (w64 (y3.X0 - y2.X1))) (w64 (y2.Y0 - y3.Y1))) (w64 (y3.Y0 - y2.Y1))), h, ((((((((((((hf.nil.cons (hf.get 27 _ rfl)).cons (hf.get 26 _ rfl)).cons (hf.get 25 _ rfl)).cons (hf.get 15 _ rfl)).cons (hf.get 13 _ rfl)).cons (hf.get 12 _ rfl)).cons (hf.get 11 _ rfl)).cons (hf.get 10 _ rfl)).cons (hf.get 9 _ rfl)).cons (hf.get 2 _ rfl)).cons (hf.get 1 _ rfl)).cons (hf.get 0 _ rfl)), hs⟩
        · replace h := h.2 hc
          refine wp_exit ?_
          refine X.then_exit ?_
          refine X.then_exit ?_
          refine X.blk_exit ?_
          refine X.blk ?_
          refine X.then_ ?_
          refine R.list ?_
          refine S.val hf hs (v := .int .i64 ((k1 + 1 : Nat) : Int)) rfl rfl rfl (V.incr rfl rfl rfl hltk1 hlenk1) (fun a hf => ?_)
          refine S.val hf hs (v := .int .i64 ((k1 + 1 : Nat) : Int)) rfl rfl rfl (V.pure rfl) (fun a hf => ?_)
          refine R.nil ?_
          refine X.then_ ?_
          exact ⟨xk1, llk1, rfl, k1 + 1, l4, l4A, l4C, range_drop hlk1, range_len hkk1, (by rw [hnext1] at h; exact h), (((((((hf.nil.cons (hf.get 26 _ rfl)).cons (hf.get 25 _ rfl)).cons (hf.get 9 _ rfl)).cons (hf.get 2 _ rfl)).cons (hf.get 1 _ rfl)).cons (hf.get 0 _ rfl)).cons (hf.get 27 _ rfl)), hs.drop.drop⟩

set_option linter.unusedVariables false
def M_ref10_Collisions_k3 (k1 : Nat) (l4 : List Pair) (n2 : Int) (again2 : List Pair → Int → Prop) (y4 : Int) (c1 : Bool) : Prop :=
  cnd c1 (must (room (l4 ++ [(⟨(k1 : Int), n2, y4⟩ : Pair)]).length 24) (again2 (l4 ++ [(⟨(k1 : Int), n2, y4⟩ : Pair)]) (w64 (n2 + 1)))) (again2 l4 (w64 (n2 + 1)))
def M_ref10_Collisions_L2 (b : (List Body)) (l : (List Place)) (gap : Int) (k1 : Nat) (xk1 : Place) (next1 : List Pair → Prop) (again2 : List Pair → Int → Prop) (l4 : List Pair) (n2 : Int) : Prop :=
  cnd (decide (n2 < (l.length : Int))) (idx l n2 fun x1 => M_ref10_taken b xk1 fun y2 => M_ref10_taken b x1 fun y3 => M_ref10_between y2 y3 fun y4 => cnd (xk1.Below == x1.Below) (M_ref10_Collisions_k3 k1 l4 n2 again2 y4 (decide (y4 < gap))) (M_ref10_Collisions_k3 k1 l4 n2 again2 y4 false)) (next1 l4)
def M_ref10_Collisions_L1 (b : (List Body)) (l : (List Place)) (gap : Int) (k1 : Nat) (xk1 : Place) (l2 : List Pair) (next1 : List Pair → Prop) : Prop :=
  lp (fun again (s : List Pair × Int) => M_ref10_Collisions_L2 b l gap k1 xk1 next1 (fun l4 n2 => again (l4, n2)) s.1 s.2) (l2, ((k1 + 1 : Nat) : Int))
def M_ref10_Collisions (b : (List Body)) (l : (List Place)) (gap : Int) (Q : (List Pair) → Int → Prop) : Prop :=
  M_ref10_CheckPlaces b l fun y1 => cnd (y1 != 0) (Q ([] : List Pair) y1) (cnd (!(within gap 0 100000)) (Q ([] : List Pair) 1) (forIn' (fun k x (s : List Pair) next => M_ref10_Collisions_L1 b l gap k x s (fun l2 => next l2)) (fun (s : List Pair) => (fun (l2 : List Pair) => Q l2 0) s) l 0 ([] : List Pair)))
set_option maxHeartbeats 1000000 in
theorem R_ref10_Collisions (b : (List Body)) (l : (List Place)) (gap : Int) (w0 : World) (bA : Option Addr) (bC : Nat) (hv_b : View w0 (old w0 none_) bA bC b) (lA : Option Addr) (lC : Nat) (hv_l : View w0 (old w0 none_) lA lC l) (Q : (List Pair) → Int → Prop) (h : M_ref10_Collisions b l gap Q) :
    Ret Tryd.prog 18 #[.slice bA b.length bC, .slice lA l.length lC, .int .i64 gap] w0 fun v w' => ∃ (r0 : (List Pair)) (r0A : Option Addr) (r0C : Nat) (r1 : Int), v = .tuple #[.slice r0A r0.length r0C, .int .i64 r1] ∧ Q r0 r1 ∧ Sat w0 none_ [hown 36 r0A r0C r0] w' := by
  refine fn_enter Tryd.func18 rfl Tryd.ntmps18 rfl (fs := [(0, .slice bA b.length bC), (1, .slice lA l.length lC), (2, .int .i64 gap)]) rfl (fun a hf => ?_)
  have hs := Sat.start w0 none_
  unfold M_ref10_Collisions at h
  refine wp_seq ?_
  refine R.list ?_
  refine S.val hf hs (v := .slice none 0 0) rfl rfl rfl (V.pure rfl) (fun a hf => ?_)
  refine S.val hf hs (v := .int .i64 0) rfl rfl rfl (V.pure rfl) (fun a hf => ?_)
  refine R.nil ?_
  refine X.then_ ?_
  refine wp_seq ?_
  refine wp_seq ?_
  refine R.list ?_
  refine S.val hf hs (v := .slice bA b.length bC) rfl rfl rfl (V.pure rfl) (fun a hf => ?_)
  refine S.val hf hs (v := .slice lA l.length lC) rfl rfl rfl (V.pure rfl) (fun a hf => ?_)
  refine S.call hf rfl rfl rfl (call_fn (vs := [.slice bA b.length bC, .slice lA l.length lC]) rfl rfl rfl Tryd.call36) (R_ref10_CheckPlaces b l _ bA bC ((Ag.args _ _ _).view hv_b hs) lA lC ((Ag.args _ _ _).view hv_l hs) _ h) (fun v a w' hf hr => ?_)
  obtain ⟨y1, rfl, h2, hs2⟩ := hr
  replace h := h2; replace hs := hs.call hs2; clear h2 hs2
  refine S.val hf hs (v := .int .i64 y1) rfl rfl rfl (V.pure rfl) (fun a hf => ?_)
  refine R.nil ?_
  refine X.then_ ?_
  refine wp_seq ?_
  refine R.list ?_
  refine S.val hf hs (v := .int .i64 y1) rfl rfl rfl (V.pure rfl) (fun a hf => ?_)
  refine S.val hf hs (v := .bool (y1 != 0)) rfl rfl rfl (V.pure rfl) (fun a hf => ?_)
  refine R.nil ?_
  refine X.then_ ?_
  refine C.cond hf (b := y1 != 0) rfl (fun hc => ?_) (fun hc => ?_)
  · replace h := h.1 hc
    refine wp_seq ?_
    refine R.list ?_
    refine S.val hf hs (v := .int .i64 y1) rfl rfl rfl (V.pure rfl) (fun a hf => ?_)
    refine S.val hf hs (v := .slice none 0 0) rfl rfl rfl (V.pure rfl) (fun a hf => ?_)
    refine S.val hf hs (v := .int .i64 y1) rfl rfl rfl (V.pure rfl) (fun a hf => ?_)
    refine R.nil ?_
    refine X.then_ ?_
    refine wp_ret ?_
    refine X.then_ret ?_
    replace hs := hs.nilOwn (α := Pair) 36
    replace hs := hs.take 1
    exact L.ret hf (run_results2 Tryd.results18 (ResIs.tmp hf rfl) (ResIs.tmp hf rfl)) ⟨([] : List Pair), none, 0, y1, rfl, h, hs⟩
  · replace h := h.2 hc
    refine wp_skip ?_
    refine X.then_ ?_
    refine wp_seq ?_
    refine wp_seq ?_
    refine R.list ?_
    refine S.val hf hs (v := .int .i64 gap) rfl rfl rfl (V.pure rfl) (fun a hf => ?_)
    refine S.callv hf rfl rfl rfl (call_fn (vs := [.int .i64 gap, .int .i64 0, .int .i64 100000]) rfl rfl rfl Tryd.call51) (C_ref10_within gap 0 100000 _ ) (fun a w hf hs' => ?_)
    replace hs := hs.call hs'; clear hs'
    refine S.val hf hs (v := .bool (!(within gap 0 100000))) rfl rfl rfl (V.pure rfl) (fun a hf => ?_)
    refine R.nil ?_
    refine X.then_ ?_
    refine C.cond hf (b := !(within gap 0 100000)) rfl (fun hc => ?_) (fun hc => ?_)
    · replace h := h.1 hc
      refine wp_seq ?_
      refine R.list ?_
      refine S.val hf hs (v := .slice none 0 0) rfl rfl rfl (V.pure rfl) (fun a hf => ?_)
      refine S.val hf hs (v := .int .i64 1) rfl rfl rfl (V.pure rfl) (fun a hf => ?_)
      refine R.nil ?_
      refine X.then_ ?_
      refine wp_ret ?_
      refine X.then_ret ?_
      replace hs := hs.nilOwn (α := Pair) 36
      replace hs := hs.take 1
      exact L.ret hf (run_results2 Tryd.results18 (ResIs.tmp hf rfl) (ResIs.tmp hf rfl)) ⟨([] : List Pair), none, 0, 1, rfl, h, hs⟩
    · replace h := h.2 hc
      refine wp_skip ?_
      refine X.then_ ?_
      refine wp_seq ?_
      refine R.list ?_
      refine S.val hf hs (v := .slice none 0 0) rfl rfl rfl (V.pure rfl) (fun a hf => ?_)
      refine R.nil ?_
      refine X.then_ ?_
      refine wp_seq ?_
      refine wp_seq ?_
      refine R.list ?_
      refine S.val hf hs (v := .slice lA l.length lC) rfl rfl rfl (V.pure rfl) (fun a hf => ?_)
      refine S.val hf hs (v := .int .i64 (l.length : Int)) rfl rfl rfl (V.len rfl rfl Tryd.runUnderlying23) (fun a hf => ?_)
      refine S.val hf hs (v := .int .i64 0) rfl rfl rfl (V.pure rfl) (fun a hf => ?_)
      refine R.nil ?_
      refine X.then_ ?_
      refine wp_block ?_
      replace hs := hs.nilOwn (α := Pair) 36
      have hlenk1 := hv_l.len64
      refine C.range (fun (ll : List Place) a w => ∃ (k1 : Nat) (l2 : List Pair) (l2A : Option Addr) (l2C : Nat), l.drop k1 = ll ∧ k1 + ll.length = l.length ∧ forIn' (fun k x (s : List Pair) next => M_ref10_Collisions_L1 b l gap k x s (fun l2 => next l2)) (fun (s : List Pair) => (fun (l2 : List Pair) => Q l2 0) s) ll k1 l2 ∧ FrOk 70 [(25, .int .i64 (k1 : Int)), (0, .slice bA b.length bC), (1, .slice lA l.length lC), (2, .int .i64 gap), (9, .slice l2A l2.length l2C), (23, .slice lA l.length lC), (24, .int .i64 (l.length : Int))] a ∧ Sat w0 none_ [hown 36 l2A l2C l2] w) l ⟨0, ([] : List Pair), none, 0, rfl, Nat.zero_add _, h, (((((((hf.nil.cons (hf.get 24 _ rfl)).cons (hf.get 23 _ rfl)).cons (hf.get 9 _ rfl)).cons (hf.get 2 _ rfl)).cons (hf.get 1 _ rfl)).cons (hf.get 0 _ rfl)).cons (hf.get 25 _ rfl)), hs⟩ ?_
      clear h hf hs
      rintro llk1 a w ⟨k1, l2, l2A, l2C, hlk1, hkk1, h, hf, hs⟩
      cases llk1 with
      | nil =>
        have hc := range_done hkk1
        replace h : (fun (l2 : List Pair) => Q l2 0) l2 := h
        refine wp_seq ?_
        refine R.list ?_
        refine S.val hf hs (v := .bool false) rfl rfl rfl (V.cmp false rfl rfl rfl rfl hc) (fun a hf => ?_)
        refine R.nil ?_
        refine X.then_ ?_
        refine wp_seq ?_
        refine C.no hf rfl ?_
        refine wp_exit ?_
        refine X.then_exit ?_
        refine X.then_exit ?_
        refine X.blk_exit ?_
        refine X.then_ ?_
        refine wp_seq ?_
        refine R.list ?_
        refine S.val hf hs (v := .slice l2A l2.length l2C) rfl rfl rfl (V.pure rfl) (fun a hf => ?_)
        refine S.val hf hs (v := .slice l2A l2.length l2C) rfl rfl rfl (V.pure rfl) (fun a hf => ?_)
        refine S.val hf hs (v := .int .i64 0) rfl rfl rfl (V.pure rfl) (fun a hf => ?_)
        refine R.nil ?_
        refine X.then_ ?_
        refine wp_ret ?_
        replace hs := hs.take 1
        exact L.ret hf (run_results2 Tryd.results18 (ResIs.tmp hf rfl) (ResIs.tmp hf rfl)) ⟨l2, l2A, l2C, 0, rfl, h, hs⟩
      | cons xk1 llk1 =>
        have hltk1 := range_lt hkk1; have hc := range_go hkk1; have hxk1 := range_get hlk1
        obtain ⟨next1, hnext1⟩ : ∃ X : List Pair → Prop, X = (fun l2 => forIn' (fun k x (s : List Pair) next => M_ref10_Collisions_L1 b l gap k x s (fun l2 => next l2)) (fun (s : List Pair) => (fun (l2 : List Pair) => Q l2 0) s) llk1 (k1 + 1) l2) := ⟨_, rfl⟩
        replace h : M_ref10_Collisions_L1 b l gap k1 xk1 l2 next1 := by rw [hnext1]; exact h
        unfold M_ref10_Collisions_L1 at h
        refine wp_seq ?_
        refine R.list ?_
        refine S.val hf hs (v := .bool true) rfl rfl rfl (V.cmp true rfl rfl rfl rfl hc) (fun a hf => ?_)
        refine R.nil ?_
        refine X.then_ ?_
        refine wp_seq ?_
        refine C.yes hf rfl ?_
        refine wp_skip ?_
        refine X.then_ ?_
        refine wp_seq ?_
        refine wp_block ?_
        refine wp_seq ?_
        refine R.list ?_
        refine S.val hf hs (v := .int .i64 (k1 : Int)) rfl rfl rfl (V.pure rfl) (fun a hf => ?_)
        refine S.val hf hs (v := elemPtr lA (k1 * 6)) rfl rfl rfl (V.index rfl rfl rfl Tryd.runUnderlying23 Tryd.sizeOf28 (hv_l.some_ (lt_of_get hxk1)) (Int.natCast_nonneg _) (lt_of_get hxk1) rfl) (fun a hf => ?_)
        refine S.val hf hs (v := .agg #[.string (ba xk1.Part), .string (ba xk1.Typ), .int .i64 xk1.At.X, .int .i64 xk1.At.Y, .int .i64 xk1.Quarters, .bool xk1.Below]) rfl rfl rfl (V.loadEl (off := 0) (Ag.args _ _ _) (hv_l.flat hxk1) rfl rfl rfl Tryd.isAgg28 Tryd.sizeOf28 rfl rfl) (fun a hf => ?_)
        refine S.alloc hf hs rfl rfl rfl [.string (ba []), .string (ba []), .int .i64 0, .int .i64 0, .int .i64 0, .bool false] rfl Tryd.zeroValue28 rfl (fun g1 a w hf hs => ?_)
        refine S.val hf hs (v := .int .i64 (k1 : Int)) rfl rfl rfl (V.pure rfl) (fun a hf => ?_)
        refine S.storeBox 0 hf hs rfl rfl [.string (ba xk1.Part), .string (ba xk1.Typ), .int .i64 xk1.At.X, .int .i64 xk1.At.Y, .int .i64 xk1.Quarters, .bool xk1.Below] [.string (ba xk1.Part), .string (ba xk1.Typ), .int .i64 xk1.At.X, .int .i64 xk1.At.Y, .int .i64 xk1.Quarters, .bool xk1.Below] rfl rfl rfl rfl rfl Tryd.sizeOf28 rfl rfl rfl rfl (fun a w hf hs => ?_)
        refine R.nil ?_
        refine X.then_ ?_
        refine wp_seq ?_
        refine R.list ?_
        refine S.val hf hs (v := .int .i64 (k1 : Int)) rfl rfl rfl (V.pure rfl) (fun a hf => ?_)
        refine S.val hf hs (v := .int .i64 ((k1 + 1 : Nat) : Int)) rfl rfl rfl (V.incr rfl rfl rfl hltk1 hlenk1) (fun a hf => ?_)
        refine S.val hf hs (v := .int .i64 ((k1 + 1 : Nat) : Int)) rfl rfl rfl (V.pure rfl) (fun a hf => ?_)
        refine R.nil ?_
        refine X.then_ ?_
        refine wp_block ?_
        obtain ⟨kk, h⟩ := h
        refine C.loop (fun kk a w => ∃ (l4 : List Pair) (l4A : Option Addr) (l4C : Nat) (n2 : Int), iterF (fun again (s : List Pair × Int) => M_ref10_Collisions_L2 b l gap k1 xk1 next1 (fun l4 n2 => again (l4, n2)) s.1 s.2) kk (l4, n2) ∧ FrOk 70 [(0, .slice bA b.length bC), (1, .slice lA l.length lC), (2, .int .i64 gap), (9, .slice l4A l4.length l4C), (10, .int .i64 (k1 : Int)), (11, .pointer (some ⟨g1, 0, none⟩)), (12, .int .i64 n2), (23, .slice lA l.length lC), (24, .int .i64 (l.length : Int)), (25, .int .i64 (k1 : Int))] a ∧ Sat w0 none_ [hbox g1 28 [.string (ba xk1.Part), .string (ba xk1.Typ), .int .i64 xk1.At.X, .int .i64 xk1.At.Y, .int .i64 xk1.Quarters, .bool xk1.Below], hown 36 l4A l4C l4] w) kk ⟨l2, l2A, l2C, ((k1 + 1 : Nat) : Int), h, ((((((((((hf.nil.cons (hf.get 25 _ rfl)).cons (hf.get 24 _ rfl)).cons (hf.get 23 _ rfl)).cons (hf.get 12 _ rfl)).cons (hf.get 11 _ rfl)).cons (hf.get 10 _ rfl)).cons (hf.get 9 _ rfl)).cons (hf.get 2 _ rfl)).cons (hf.get 1 _ rfl)).cons (hf.get 0 _ rfl)), hs⟩ (fun a w ⟨_, _, _, _, h, _, _⟩ => h) ?_
        clear h hf hs
        rintro kk a w ⟨l4, l4A, l4C, n2, h, hf, hs⟩
        obtain ⟨again2, hagain2⟩ : ∃ X : List Pair → Int → Prop, X = (fun l4 n2 => iterF (fun again (s : List Pair × Int) => M_ref10_Collisions_L2 b l gap k1 xk1 next1 (fun l4 n2 => again (l4, n2)) s.1 s.2) kk (l4, n2)) := ⟨_, rfl⟩
        replace h : M_ref10_Collisions_L2 b l gap k1 xk1 next1 again2 l4 n2 := by rw [hagain2]; exact h
        unfold M_ref10_Collisions_L2 at h
        refine wp_seq ?_
        refine wp_seq ?_
        refine R.list ?_
        refine S.val hf hs (v := .int .i64 n2) rfl rfl rfl (V.pure rfl) (fun a hf => ?_)
        refine S.val hf hs (v := .slice lA l.length lC) rfl rfl rfl (V.pure rfl) (fun a hf => ?_)
        refine S.val hf hs (v := .int .i64 (l.length : Int)) rfl rfl rfl (V.len rfl rfl Tryd.runUnderlying23) (fun a hf => ?_)
        refine S.val hf hs (v := .bool (decide (n2 < (l.length : Int)))) rfl rfl rfl (V.pure rfl) (fun a hf => ?_)
        refine R.nil ?_
        refine X.then_ ?_
        refine C.cond hf (b := decide (n2 < (l.length : Int))) rfl (fun hc => ?_) (fun hc => ?_)
        · replace h := h.1 hc
          refine wp_skip ?_
          refine X.then_ ?_
          refine wp_seq ?_
          refine wp_block ?_
          refine wp_seq ?_
          refine H.start (S := Sat w0 none_ [hbox g1 28 [.string (ba xk1.Part), .string (ba xk1.Typ), .int .i64 xk1.At.X, .int .i64 xk1.At.Y, .int .i64 xk1.Quarters, .bool xk1.Below], hown 36 l4A l4C l4]) mo ?_
          replace hs := hs.drew
          refine H.val hf hs (v := .slice bA b.length bC) (i := 0) rfl rfl rfl rfl (by kernel_rfl) (by kernel_rfl) (by kernel_rfl) (V.pure rfl) (fun a hf => ?_)
          refine H.val hf hs (v := .agg #[.string (ba xk1.Part), .string (ba xk1.Typ), .int .i64 xk1.At.X, .int .i64 xk1.At.Y, .int .i64 xk1.Quarters, .bool xk1.Below]) (i := 1) rfl rfl rfl rfl (by kernel_rfl) (by kernel_rfl) (by kernel_rfl) (V.loadBox 0 rfl rfl rfl Tryd.isAgg28 Tryd.sizeOf28 rfl rfl) (fun a hf => ?_)
          refine H.val hf hs (v := .slice bA b.length bC) (i := 3) rfl rfl rfl rfl (by kernel_rfl) (by kernel_rfl) (by kernel_rfl) (V.pure rfl) (fun a hf => ?_)
          refine H.val hf hs (v := .slice lA l.length lC) (i := 4) rfl rfl rfl rfl (by kernel_rfl) (by kernel_rfl) (by kernel_rfl) (V.pure rfl) (fun a hf => ?_)
          refine H.val hf hs (v := .int .i64 n2) (i := 5) rfl rfl rfl rfl (by kernel_rfl) (by kernel_rfl) (by kernel_rfl) (V.pure rfl) (fun a hf => ?_)
          obtain ⟨h0x1, x1, hx1, h⟩ := h
          refine H.val hf hs (v := elemPtr lA (n2.toNat * 6)) (i := 6) rfl rfl rfl rfl (by kernel_rfl) (by kernel_rfl) (by kernel_rfl) (V.index rfl rfl rfl Tryd.runUnderlying23 Tryd.sizeOf28 (hv_l.some_ (lt_of_get hx1)) h0x1 (lt_of_get hx1) rfl) (fun a hf => ?_)
          refine H.val hf hs (v := .agg #[.string (ba x1.Part), .string (ba x1.Typ), .int .i64 x1.At.X, .int .i64 x1.At.Y, .int .i64 x1.Quarters, .bool x1.Below]) (i := 7) rfl rfl rfl rfl (by kernel_rfl) (by kernel_rfl) (by kernel_rfl) (V.loadEl (off := 0) (Ag.args _ _ _) (hv_l.flat hx1) rfl rfl rfl Tryd.isAgg28 Tryd.sizeOf28 rfl rfl) (fun a hf => ?_)
          refine H.one (i := 2) rfl (by kernel_rfl) ?_
          refine S.call hf rfl rfl rfl (call_fn (vs := [.slice bA b.length bC, .agg #[.string (ba xk1.Part), .string (ba xk1.Typ), .int .i64 xk1.At.X, .int .i64 xk1.At.Y, .int .i64 xk1.Quarters, .bool xk1.Below]]) rfl rfl rfl Tryd.call50) (R_ref10_taken b xk1 _ bA bC ((Ag.args _ _ _).view hv_b hs) _ h) (fun v a w' hf hr => ?_)
          obtain ⟨y2, rfl, h2, hs2⟩ := hr
          replace h := h2; replace hs := hs.call hs2; clear h2 hs2
          refine R.nil ?_
          refine X.then_ ?_
          refine ⟨hs, ?_⟩
          refine H.one (i := 8) rfl (by kernel_rfl) ?_
          refine S.call hf rfl rfl rfl (call_fn (vs := [.slice bA b.length bC, .agg #[.string (ba x1.Part), .string (ba x1.Typ), .int .i64 x1.At.X, .int .i64 x1.At.Y, .int .i64 x1.Quarters, .bool x1.Below]]) rfl rfl rfl Tryd.call50) (R_ref10_taken b x1 _ bA bC ((Ag.args _ _ _).view hv_b hs) _ h) (fun v a w' hf hr => ?_)
          obtain ⟨y3, rfl, h2, hs2⟩ := hr
          replace h := h2; replace hs := hs.call hs2; clear h2 hs2
          refine R.nil ?_
          refine X.then_ ?_
          refine ⟨hs, ?_⟩
          refine H.one (i := 9) rfl (by kernel_rfl) ?_
          refine S.call hf rfl rfl rfl (call_fn (vs := [.agg #[.int .i64 y2.X0, .int .i64 y2.Y0, .int .i64 y2.X1, .int .i64 y2.Y1], .agg #[.int .i64 y3.X0, .int .i64 y3.Y0, .int .i64 y3.X1, .int .i64 y3.Y1]]) rfl rfl rfl Tryd.call52) (R_ref10_between y2 y3 _  _ h) (fun v a w' hf hr => ?_)
          obtain ⟨y4, rfl, h2, hs2⟩ := hr
          replace h := h2; replace hs := hs.call hs2; clear h2 hs2
          refine R.nil ?_
          refine X.then_ ?_
          refine ⟨hs, ?_⟩
          refine H.val hf hs (v := .int .i64 y4) (i := 10) rfl rfl rfl rfl (by kernel_rfl) (by kernel_rfl) (by kernel_rfl) (V.pure rfl) (fun a hf => ?_)
          refine H.done (by kernel_rfl) ?_
          refine X.then_ ?_
          refine wp_seq ?_
          refine C.cut (J := fun a w => ∃ (c1 : Bool), M_ref10_Collisions_k3 k1 l4 n2 again2 y4 c1 ∧ FrOk 70 [(0, .slice bA b.length bC), (1, .slice lA l.length lC), (2, .int .i64 gap), (9, .slice l4A l4.length l4C), (10, .int .i64 (k1 : Int)), (11, .pointer (some ⟨g1, 0, none⟩)), (12, .int .i64 n2), (13, .int .i64 y4), (23, .slice lA l.length lC), (24, .int .i64 (l.length : Int)), (25, .int .i64 (k1 : Int)), (60, .bool c1)] a ∧ Sat w0 none_ [hbox g1 28 [.string (ba xk1.Part), .string (ba xk1.Typ), .int .i64 xk1.At.X, .int .i64 xk1.At.Y, .int .i64 xk1.Quarters, .bool xk1.Below], hown 36 l4A l4C l4] w) ?_ ?_
          · rintro a w ⟨c1, h, hf, hs⟩
            unfold M_ref10_Collisions_k3 at h
            refine C.cond hf (b := c1) rfl (fun hc => ?_) (fun hc => ?_)
            · replace h := h.1 hc
              refine R.list ?_
              refine S.val hf hs (v := .slice l4A l4.length l4C) rfl rfl rfl (V.pure rfl) (fun a hf => ?_)
              refine S.val hf hs (v := .int .i64 (k1 : Int)) rfl rfl rfl (V.pure rfl) (fun a hf => ?_)
              refine S.val hf hs (v := .int .i64 n2) rfl rfl rfl (V.pure rfl) (fun a hf => ?_)
              refine S.val hf hs (v := .int .i64 y4) rfl rfl rfl (V.pure rfl) (fun a hf => ?_)
              refine S.val hf hs (v := .agg #[.int .i64 (k1 : Int), .int .i64 n2, .int .i64 y4]) rfl rfl rfl (V.build (places := #[(0, 1), (1, 1), (2, 1)]) rfl Tryd.zeroValue36 Tryd.runUnderlying36 (by intro w; simp [Tryd.sizeOf3]) rfl rfl) (fun a hf => ?_)
              refine S.build1 hf hs rfl rfl rfl (α := Pair) (⟨(k1 : Int), n2, y4⟩ : Pair) rfl rfl rfl Tryd.runUnderlying30 Tryd.sizeOf36 Tryd.zeroValue36 rfl (by decide) (fun A1 a w hf hs => ?_)
              obtain ⟨hroom, h⟩ := h
              refine S.appendCells 2 hf hs rfl rfl rfl rfl rfl rfl rfl Tryd.underlying30 info36 rfl hroom ((hs.ownView 0 rfl).some_ (i := 0) (by simp)) (hs.ownView 0 rfl) (fun A2 C1 a w hf hs => ?_)
              replace hs := hs.drop
              refine S.val hf hs (v := .slice A2 (l4 ++ [(⟨(k1 : Int), n2, y4⟩ : Pair)]).length C1) rfl rfl rfl (V.pure rfl) (fun a hf => ?_)
              refine R.nil ?_
              refine X.blk ?_
              refine X.then_ ?_
              refine R.list ?_
              refine S.val hf hs (v := .int .i64 n2) rfl rfl rfl (V.pure rfl) (fun a hf => ?_)
              refine S.val hf hs (v := .int .i64 (w64 (n2 + 1))) rfl rfl rfl (V.pure rfl) (fun a hf => ?_)
              refine S.val hf hs (v := .int .i64 (w64 (n2 + 1))) rfl rfl rfl (V.pure rfl) (fun a hf => ?_)
              refine R.nil ?_
              refine X.then_ ?_
              exact ⟨(l4 ++ [(⟨(k1 : Int), n2, y4⟩ : Pair)]), A2, C1, (w64 (n2 + 1)), (by rw [hagain2] at h; exact h), ((((((((((hf.nil.cons (hf.get 25 _ rfl)).cons (hf.get 24 _ rfl)).cons (hf.get 23 _ rfl)).cons (hf.get 12 _ rfl)).cons (hf.get 11 _ rfl)).cons (hf.get 10 _ rfl)).cons (hf.get 9 _ rfl)).cons (hf.get 2 _ rfl)).cons (hf.get 1 _ rfl)).cons (hf.get 0 _ rfl)), hs⟩
            · replace h := h.2 hc
              refine wp_skip ?_
              refine X.blk ?_
              refine X.then_ ?_
              refine R.list ?_
              refine S.val hf hs (v := .int .i64 n2) rfl rfl rfl (V.pure rfl) (fun a hf => ?_)
              refine S.val hf hs (v := .int .i64 (w64 (n2 + 1))) rfl rfl rfl (V.pure rfl) (fun a hf => ?_)
              refine S.val hf hs (v := .int .i64 (w64 (n2 + 1))) rfl rfl rfl (V.pure rfl) (fun a hf => ?_)
              refine R.nil ?_
              refine X.then_ ?_
              exact ⟨l4, l4A, l4C, (w64 (n2 + 1)), (by rw [hagain2] at h; exact h), ((((((((((hf.nil.cons (hf.get 25 _ rfl)).cons (hf.get 24 _ rfl)).cons (hf.get 23 _ rfl)).cons (hf.get 12 _ rfl)).cons (hf.get 11 _ rfl)).cons (hf.get 10 _ rfl)).cons (hf.get 9 _ rfl)).cons (hf.get 2 _ rfl)).cons (hf.get 1 _ rfl)).cons (hf.get 0 _ rfl)), hs⟩
          · skip
            refine R.draw mo (by kernel_rfl) hs ?_
            refine D.val hf (v := .pointer (some ⟨g1, 5, none⟩)) rfl rfl rfl (V.fieldBox rfl rfl Tryd.runUnderlying28 rfl Tryd.sizeOf4 rfl rfl) (fun a hf => ?_)
            refine D.val hf (v := .bool xk1.Below) rfl rfl rfl (V.loadBox 0 rfl rfl rfl Tryd.isAgg4 Tryd.sizeOf4 rfl rfl) (fun a hf => ?_)
            refine D.val hf (v := .slice lA l.length lC) rfl rfl rfl (V.pure rfl) (fun a hf => ?_)
            refine D.val hf (v := .int .i64 n2) rfl rfl rfl (V.pure rfl) (fun a hf => ?_)
            refine D.val hf (v := elemPtr lA (n2.toNat * 6)) rfl rfl rfl (V.index rfl rfl rfl Tryd.runUnderlying23 Tryd.sizeOf28 (hv_l.some_ (lt_of_get hx1)) h0x1 (lt_of_get hx1) rfl) (fun a hf => ?_)
            refine D.val hf (v := elemPtr lA (n2.toNat * 6 + 5)) rfl rfl rfl (V.fieldEl rfl rfl (hv_l.some_ (lt_of_get hx1)) Tryd.runUnderlying28 rfl Tryd.sizeOf4 rfl rfl) (fun a hf => ?_)
            refine D.val hf (v := .bool x1.Below) rfl rfl rfl (V.loadEl (off := 5) (Ag.args _ _ _) (hv_l.flat hx1) rfl rfl rfl Tryd.isAgg4 Tryd.sizeOf4 rfl rfl) (fun a hf => ?_)
            refine D.val hf (v := .bool (xk1.Below == x1.Below)) rfl rfl rfl (V.boolEq rfl rfl rfl Tryd.underlying4 rfl) (fun a hf => ?_)
            refine D.split hf (b := xk1.Below == x1.Below) rfl rfl rfl (V.pure rfl) (fun hc a hf => ?_) (fun hc a hf => ?_)
            · replace h := h.1 hc
              refine D.val hf (v := .int .i64 y4) rfl rfl rfl (V.pure rfl) (fun a hf => ?_)
              refine D.val hf (v := .int .i64 gap) rfl rfl rfl (V.pure rfl) (fun a hf => ?_)
              refine D.val hf (v := .bool (decide (y4 < gap))) rfl rfl rfl (V.pure rfl) (fun a hf => ?_)
              refine D.val hf (v := .bool (decide (y4 < gap))) rfl rfl rfl (V.pure rfl) (fun a hf => ?_)
              refine D.done (fun w hs => ?_)
              refine X.then_ ?_
              exact ⟨(decide (y4 < gap)), h, ((((((((((((hf.nil.cons (hf.get 60 _ rfl)).cons (hf.get 25 _ rfl)).cons (hf.get 24 _ rfl)).cons (hf.get 23 _ rfl)).cons (hf.get 13 _ rfl)).cons (hf.get 12 _ rfl)).cons (hf.get 11 _ rfl)).cons (hf.get 10 _ rfl)).cons (hf.get 9 _ rfl)).cons (hf.get 2 _ rfl)).cons (hf.get 1 _ rfl)).cons (hf.get 0 _ rfl)), hs⟩
            · replace h := h.2 hc
              refine D.skip hf rfl rfl rfl (fun a hf => ?_)
              refine D.skip hf rfl rfl rfl (fun a hf => ?_)
              refine D.skip hf rfl rfl rfl (fun a hf => ?_)
              refine D.val hf (v := .bool false) rfl rfl rfl (V.pure rfl) (fun a hf => ?_)
              refine D.done (fun w hs => ?_)
              refine X.then_ ?_
              exact ⟨false, h, ((((((((((((hf.nil.cons (hf.get 60 _ rfl)).cons (hf.get 25 _ rfl)).cons (hf.get 24 _ rfl)).cons (hf.get 23 _ rfl)).cons (hf.get 13 _ rfl)).cons (hf.get 12 _ rfl)).cons (hf.get 11 _ rfl)).cons (hf.get 10 _ rfl)).cons (hf.get 9 _ rfl)).cons (hf.get 2 _ rfl)).cons (hf.get 1 _ rfl)).cons (hf.get 0 _ rfl)), hs⟩
        · replace h := h.2 hc
          refine wp_exit ?_
          refine X.then_exit ?_
          refine X.then_exit ?_
          refine X.blk_exit ?_
          refine X.blk ?_
          refine X.then_ ?_
          refine R.list ?_
          refine S.val hf hs (v := .int .i64 ((k1 + 1 : Nat) : Int)) rfl rfl rfl (V.incr rfl rfl rfl hltk1 hlenk1) (fun a hf => ?_)
          refine S.val hf hs (v := .int .i64 ((k1 + 1 : Nat) : Int)) rfl rfl rfl (V.pure rfl) (fun a hf => ?_)
          refine R.nil ?_
          refine X.then_ ?_
          exact ⟨xk1, llk1, rfl, k1 + 1, l4, l4A, l4C, range_drop hlk1, range_len hkk1, (by rw [hnext1] at h; exact h), (((((((hf.nil.cons (hf.get 24 _ rfl)).cons (hf.get 23 _ rfl)).cons (hf.get 9 _ rfl)).cons (hf.get 2 _ rfl)).cons (hf.get 1 _ rfl)).cons (hf.get 0 _ rfl)).cons (hf.get 25 _ rfl)), hs.drop⟩

end Go.Proofs.YtcmlcgjjkccaeaaDoor

/- Chapter texts of ours, as far as the claim needs them. -/
import Derived.Test.YtbegofbmbcghdaaGreatDoorPlain
import Derived.Test.YtbegofbmbcghdaaGreatDoorStackD
namespace Go.Proofs.YtbegofbmbcghdaaGreatDoor
open Tryz Go Go.RowKit
set_option linter.unusedVariables false
set_option linter.unusedSectionVars false
set_option linter.unusedSimpArgs false
def TV (m : (List eY)) (s_ : (List Layer)) (name : Str) (Q : Int → Int → Prop) : Prop :=
  mQ m s_ fun y1 => cnd (y1 != 0) (Q 0 y1) (Uf s_ name fun y2 => cnd (decide (y2 < 0)) (Q 0 9) (must (0 ≤ (0 : Int) ∧ (0 : Int) ≤ y2 ∧ y2 ≤ (s_.length : Int)) (Ue m (seg s_ (0 : Int) y2) fun y3 => Q y3 0)))
set_option maxHeartbeats 1000000 in
theorem Uo (m : (List eY)) (g : (List Layer)) (j : Str) (o : World) (r : Option Addr) (s : Nat) (x : View o (old o none_) r s m) (e : Option Addr) (c : Nat) (f : View o (old o none_) e c g) (Q : Int → Int → Prop) (h : TV m g j Q) :
  Ret Tryz.prog 8 #[.slice r m.length s, .slice e g.length c, .string (ba j)] o fun v E => ∃ (z : Int) (A : Int), v = .tuple #[iv z, iv A] ∧ Q z A ∧ Sat o none_ [] E := by
 refine fC func8 rfl ntmps8 rfl (fs := [(0, _), (1, _), (2, _)]) rfl (fun a b => ?_);have d := Sat.start o none_;unfold TV at h;refine Yl b <| Sq (iv 0) rfl <| Sq (iv 0) rfl <| Xn <| Ws <| Xl <| Sq (.slice r m.length s) rfl <| Sq (.slice e g.length c) rfl fun a b => Sc b (zf m g _ r s (Va x d) e c (Va f d) _ h) rfl rfl rfl rfl call15 ?_;rintro v a w b ⟨t, rfl, h, i⟩;replace d := d.call i;refine Al b <| Sq (iv t) rfl <| Xn <| Xl <| Sq (iv t) rfl <| Sq (.bool (t != 0)) rfl fun a b => X.n ?_;refine Ci b h rfl (fun _ h => ?_) fun F h => ?_
 ·refine Yl b <| Sq (iv t) rfl <| Sq (iv 0) rfl <| Sq (iv t) rfl fun a b => X.n (wp_ret (X.eu ?_));exact Ls b results8 rfl rfl ⟨0, t, rfl, h, d.nil⟩
 ·refine wp_skip (X.eH (Yl b <| Sq (.slice e g.length c) rfl <| Sq (.string (ba j)) rfl fun a b => Sc b (UL g j _ e c (Va f d) _ h) rfl rfl rfl rfl call17 ?_));rintro v a w b ⟨u, rfl, h, i⟩;replace d := d.call i;refine Al b <| Sq (iv u) rfl <| Xn <| Ws <| Xl <| Sq (iv u) rfl <| Sq (.bool (decide (u < 0))) rfl fun a b => X.n ?_;refine Ci b h rfl (fun _ h => ?_) fun _ h => ?_
  ·refine Yl b <| Sq (iv 0) rfl <| Sq (iv 9) rfl fun a b => X.n (wp_ret (X.eu ?_));exact Ls b results8 rfl rfl ⟨0, 9, rfl, h, d.nil⟩
  ·refine wp_skip (X.eH (Yl b <| Sq (.slice r m.length s) rfl <| Sq (.slice e g.length c) rfl <| Sq (iv u) rfl fun a b => ?_));obtain ⟨y, h⟩ := h;refine Al b <| Sv d (.slice (iY e c ((0 : Int) : Int).toNat 2) (seg g (0 : Int) u).length (c - ((0 : Int) : Int).toNat)) rfl (V.slice rfl rfl rfl rfl ay aw rfl rfl y f.cap (seg_length (by have := y.2.2; omega))) fun a b => Sc b (Ur m (seg g (0 : Int) u) _ r s (Va x d) (iY e c ((0 : Int) : Int).toNat 2) (c - ((0 : Int) : Int).toNat) ((Ag.args _ _ _).view (View.sub f y) d) _ h) rfl rfl rfl rfl call16 ?_;rintro v a w b ⟨B, rfl, h, i⟩;replace d := d.call i;refine Al b <| Sq (iv B) rfl <| Sq (iv 0) rfl fun a b => X.n (wp_ret ?_);exact Ls b results8 rfl rfl ⟨B, 0, rfl, h, d.nil⟩

-- no etchhouse/etchhouseref4.Depth
-- no etchhouse/stack.Apart
-- no etchhouse/etchhouseref4.Apart
-- no etchhouse/etchhouselaw4.StackDepthsMatchSpec
-- no etchhouse/etchhouseref4.IsUpper
-- no etchhouse/etchhouselaw4.StackDepthsAddUp
-- no slices.Clone[[]etchhouse/api.Layer,etchhouse/api.Layer]
-- no slices.Reverse[[]etchhouse/api.Layer,etchhouse/api.Layer]
-- no slices.Equal[[]etchhouse/api.Layer,etchhouse/api.Layer]
-- no etchhouse/stack.Mirrored
-- no etchhouse/etchhouseref4.Mirrored
-- no etchhouse/stack.Bow
-- no etchhouse/etchhouseref4.Bow
-- no etchhouse/etchhouseref4.OwnMirror
-- no etchhouse/etchhouselaw4.StackBowMatchesSpec
open Go Go.RowKit
def UI (m : List eY) (s : List Layer) (name : Str) (Q : Int → Int → Prop) : Prop :=
  if lG m s = 0 then (if Ud s name < 0 then Q 0 9 else Q (TN m (seg s 0 (Ud s name))) 0) else Q 0 (lG m s)
theorem UG {m : List eY} {s : List Layer} (hmf : Fits.fits m) (hf : Fits.fits s) {name : Str} {Q : Int → Int → Prop} (h : UI m s name Q) : TV m s name Q := by
  unfold TV
  unfold UI at h
  refine zn hmf hf (eU (fun e => ?_) (fun e => ?_))
  · rw [if_neg (by simpa using e)] at h; exact h
  · have e' : lG m s = 0 := by simpa using e
    rw [if_pos e'] at h
    obtain ⟨hm, hl, _⟩ := wu e'
    refine UK (eU (fun e2 => ?_) (fun e2 => ?_))
    · rw [if_pos (by simpa using e2)] at h; exact h
    · rw [if_neg (by simpa using e2)] at h
      have := U1 (s := s) (name := name)
      exact ⟨by simp at e2; omega, Un hm (by have := UR s 0 (Ud s name); omega) h⟩
end Go.Proofs.YtbegofbmbcghdaaGreatDoor

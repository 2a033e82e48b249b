/- Chapter texts of ours, as far as the claim needs them. -/
import Derived.Test.YtfjcgoiedlimdaaGreatDoorRtN
namespace Go.Proofs.YtfjcgoiedlimdaaGreatDoor
open Tryz Go Go.RowKit
set_option linter.unusedVariables false
set_option linter.unusedSectionVars false
set_option linter.unusedSimpArgs false
def mX (g : Grid) (pins : (List Cell)) (Q : Int → Prop) (k1 : Nat) (xk1 : Cell)  (next1 : Prop) : Prop :=
  qQ g xk1 fun y1 => cnd (!y1) (Q 1) (jI g.Blocked xk1 fun y2 => cnd y2 (Q 14) (must (0 ≤ (0 : Int) ∧ (0 : Int) ≤ (k1 : Int) ∧ (k1 : Int) ≤ (pins.length : Int)) (jI (seg pins (0 : Int) (k1 : Int)) xk1 fun y3 => cnd y3 (Q 7) (next1))))
def pK (g : Grid) (pins : (List Cell)) (most : Int) (Q : Int → Prop) : Prop :=
  cnd ((pins.length : Int) == 0) (Q 9) (cnd (decide ((pins.length : Int) > most)) (Q 2) (forIn' (fun k x (s : Unit) next => mX g pins Q k x (next ())) (fun (s : Unit) => Q 0) pins 0 ()))
set_option maxHeartbeats 1000000 in
theorem Ed (g : Grid) (d : (List Cell)) (y : Int) (A : World) (e : Option Addr) (f : Nat) (r : View A (old A none_) e f g.Blocked) (m : Option Addr) (j : Nat) (o : View A (old A none_) m j d) (Q : Int → Prop) (h : pK g d y Q) :
  Ret Tryz.prog 30 #[.agg #[iv g.W, iv g.H, iv g.Layers, .slice e g.Blocked.length f], .slice m d.length j, iv y] A fun v w' => ∃ (r0 : Int), v = iv r0 ∧ Q r0 ∧ Sat A none_ [] w' := by
 refine fF func30 Z ntmps30 Z (fs := [(0, _), (1, _), (2, _)]) Z (fun a b => ?_);have c := Sat.start A none_;unfold pK at h;refine X.l (S.box b c Z Z Z (gB g e f) Z Z Z (fun U a w b c => Al b <| Sq (iv 0) Z <| Xn <| Ws <| Xl <| Sq (.slice m d.length j) Z <| Sv c (iv (d.length : Int)) Z (V.len Z Z af) <| Sq (.bool ((d.length : Int) == 0)) Z fun a b => X.n ?_));refine Ci b h Z (fun _ h => ?_) fun B h => ?_
 ·refine Yl b <| Sq (iv 9) Z fun a b => X.n (wp_ret (X.eH ?_));exact Lr b bW Z ⟨9, Z, h, c.nil⟩
 ·refine wp_skip (X.eF (wp_seq (Yl b <| Sq (.slice m d.length j) Z <| Sv c (iv (d.length : Int)) Z (V.len Z Z af) <| Sq (iv y) Z <| Sq (.bool (decide ((d.length : Int) > y))) Z fun a b => X.n ?_)));refine Ci b h Z (fun _ h => ?_) fun B h => ?_
  ·refine Yl b <| Sq (iv 2) Z fun a b => X.n (wp_ret (X.eH ?_));exact Lr b bW Z ⟨2, Z, h, c.nil⟩
  ·refine wp_skip (X.eF (wp_seq (Yl b <| Sq (.slice m d.length j) Z <| Sv c (iv (d.length : Int)) Z (V.len Z Z af) <| Sq (iv 0) Z fun a b => X.n (wp_block ?_))));have I := o.iY;refine C.range (fun (ll : List Cell) a w => ∃ (u : Nat) , d.drop u = ll ∧ u + ll.length = d.length ∧ forIn' (fun k x (s : Unit) next => mX g d Q k x (next ())) (fun (s : Unit) => Q 0) ll u () ∧ eU 40 [(18, iv (u : Int)), (1, .slice m d.length j), (3, (pn U 0)), (16, .slice m d.length j), (17, iv (d.length : Int))] a ∧ Sat A none_ [hbox U 24 (gB g e f)] w) d ⟨0, Z, Nat.zero_add _, h, (b.pk Z), c⟩ ?_;clear h b c;rintro F a w ⟨u, J, z, h, b, c⟩
   cases F with
   | nil =>
    have B := fQ z;replace h := fzx h;refine Yl b <| Sv c (.bool false) Z (V.cmp false Z Z Z Z B) fun a b => X.n (wp_seq (C.no b Z (wp_exit (X.eG (X.eG (X.fG (X.eF (Yl b <| Sq (iv 0) Z fun a b => X.n (wp_ret ?_)))))))));exact Lr b bW Z ⟨0, Z, h, c.nil⟩
   | cons t F =>
    have P := gJ z; have B := gQ z; have G := gm J;obtain ⟨T, K, h⟩ := zM h;replace h : mX g d Q u t  T := h;unfold mX at h;refine Yl b <| Sv c (.bool true) Z (V.cmp true Z Z Z Z B) fun a b => X.n (wp_seq (C.yes b Z (wp_skip (X.eF (wp_seq (wp_block (Yl b <| Sq (iv (u : Int)) Z <| Sv c (eP m (u * 3)) Z (V.index Z Z Z af ac (o.some_ (dO G)) (Int.natCast_nonneg _) (dO G) Z) <| Sv c (fP t) Z (V.gX (off := 0) (Ag.args _ _ _) (o.flat G) Z Z Z ae ac Z Z) fun a b => S.alloc b c Z Z Z [iv 0, iv 0, iv 0] Z ao Z (fun g2 a w b c => Al b <| Sq (iv (u : Int)) Z fun a b => S.fM 0 b c Z Z (fH t) (fH t) Z Z Z Z Z ac Z Z Z Z (fun a w b c => X.n (wp_block (Yl b <| Sv c (iO g e f) Z (V.dR 1 Z Z Z au ah Z Z) <| Sv c (fP t) Z (V.dR 0 Z Z Z ae ac Z Z) fun a b => Sc b (yx g t _ e f (Va r c) _ h) Z Z Z Z call51 ?_)))))))))));rintro v a w b ⟨y1, rfl, h, i⟩;replace c := c.call i;refine Al b <| Sq (.bool (!y1)) Z <| Sq (.bool (!y1)) Z fun a b => X.n ?_;refine Ci b h Z (fun _ h => ?_) fun B h => ?_
    ·refine Yl b <| Sq (iv 1) Z fun a b => X.n (wp_ret (X.fV (X.fV (X.eH (X.eH (X.fV (X.eH ?_)))))));exact Lr b bW Z ⟨1, Z, h, c.nil⟩
    ·refine Yl b <| Sv c (pn U 3) Z (V.dV Z Z aj Z an Z Z) <| Sv c (.slice e g.Blocked.length f) Z (V.dR 1 Z Z Z aI an Z Z) <| Sv c (fP t) Z (V.dR 0 Z Z Z ae ac Z Z) fun a b => Sc b (oz g.Blocked t _ e f (Va r c) _ h) Z Z Z Z call31 ?_;rintro v a w b ⟨y2, rfl, h, i⟩;replace c := c.call i;refine Al b <| Sq (.bool y2) Z fun a b => X.n ?_;refine Ci b h Z (fun _ h => ?_) fun B h => ?_
     ·refine Yl b <| Sq (iv 14) Z fun a b => X.n (wp_ret (X.fV (X.fV (X.eH (X.eH (X.fV (X.eH ?_)))))));exact Lr b bW Z ⟨14, Z, h, c.nil⟩
     ·refine wp_seq (Hs c mo fun c => ?_);refine Ah b <| Hq c (.slice m d.length j) 0 Z Z <| Hq c (iv (u : Int)) 1 Z Z fun a b => ?_;obtain ⟨O, h⟩ := h;refine Ah b <| Hw c (.slice (xg m j ((0 : Int) : Int).toNat 3) (seg d (0 : Int) (u : Int)).length (j - ((0 : Int) : Int).toNat)) 2 Z Z (V.slice Z Z Z Z af ac Z Z O o.cap (seg_length (by have := O.2.2; omega))) <| Hw c (fP t) 3 Z Z (V.dR 0 Z Z Z ae ac Z Z) fun a b => Ho 4 Z (Sc b (oz (seg d (0 : Int) (u : Int)) t _ (xg m j ((0 : Int) : Int).toNat 3) (j - ((0 : Int) : Int).toNat) ((Ag.args _ _ _).view (View.sub o O) c) _ h) Z Z Z Z call31 ?_);rintro v a w b ⟨y3, rfl, h, i⟩;replace c := c.call i;refine X.n (⟨c, (Ah b <| Hq c (.bool y3) 5 Z Z fun a b => Hd (X.eF ?_))⟩);refine Ci b h Z (fun _ h => ?_) fun _ h => ?_
      ·refine Yl b <| Sq (iv 7) Z fun a b => X.n (wp_ret (X.fV (X.fV (X.eH (X.eH (X.fV (X.eH ?_)))))));exact Lr b bW Z ⟨7, Z, h, c.nil⟩
      ·refine wp_skip (X.blk (X.blk (X.eF (Rm b <| Sv c (iv ((u + 1 : Nat) : Int)) Z (V.jf Z Z Z P I) <| Sq (iv ((u + 1 : Nat) : Int)) Z fun a b => X.n ?_))));exact ⟨t, F, Z, u + 1, fD J, fJ z, (by rw [K] at h; exact h), (b.pk Z), c.drop⟩

-- UNSUPPORTED (*etchhouse/etchhouseref7.field).grow: 'NoneType' object is not subscriptable
-- no etchhouse/etchhouseref7.bitOf
end Go.Proofs.YtfjcgoiedlimdaaGreatDoor

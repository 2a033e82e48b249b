/- Chapter 10: what parts take, which collide: what program and reference come to, and the laws. -/
import Derived.Test.YtcmlcgjjkccaeaaDoorDoorD
namespace Go.Proofs.YtcmlcgjjkccaeaaDoor
open Go Go.RowKit
set_option linter.unusedVariables false

/-! ### what a part takes -/
def wh (b : List Body) (p : Place) : Int × Int :=
  let x := (bodyAt b p.Typ).getD noBody
  if (p.Quarters.tmod 2 == 1) = true then (x.H, x.W) else (x.W, x.H)
def rect (p : Place) (n : Int × Int) : Rect := ⟨w64 (p.At.X - half n.1), w64 (p.At.Y - half n.2), w64 (w64 (p.At.X - half n.1) + n.1), w64 (w64 (p.At.Y - half n.2) + n.2)⟩
def rectOf (b : List Body) (p : Place) : Rect := rect p (wh b p)
theorem S_mount_taken {b : List Body} (hb : BodiesOk b) {p : Place} {Q : Rect → Prop} (h : Q (rectOf b p)) : M_mount_taken b p Q := by
  unfold M_mount_taken
  unfold rectOf wh at h
  refine S_mount_bodyOf hb (cnd_of (fun e => ?_) (fun e => ?_))
  · rw [if_pos e] at h; exact h
  · rw [if_neg (by rw [e]; simp)] at h; exact h
theorem S_ref10_taken {b : List Body} {p : Place} (hs : (bodyAt b p.Typ).isSome = true) {Q : Rect → Prop} (h : Q (rectOf b p)) : M_ref10_taken b p Q := by
  unfold M_ref10_taken
  unfold rectOf wh at h
  refine S_ref10_bodyOf ?_
  have hix := bodyIx_at b p.Typ
  cases hf : bodyIx b p.Typ with
  | none => rw [hf] at hix; rw [hix] at hs; cases hs
  | some i =>
    rw [hf] at hix
    obtain ⟨x, hx, hy⟩ := hix
    rw [hy] at h
    refine idx_nat hx (cnd_of (fun e => ?_) (fun e => ?_))
    · rw [if_pos e] at h; exact h
    · rw [if_neg (by rw [e]; simp)] at h; exact h
theorem places_one (b : List Body) (p : Place) : placesFault b [p] = if bodiesFault b ≠ 0 then bodiesFault b else placeBad0 b p := by
  unfold placesFault
  have hu : under Place.Part [p] 0 p = false := by unfold under; simp
  simp only [List.length_singleton, firstBad, placeBad, hu, Bool.false_eq_true, if_false]
  by_cases h : bodiesFault b = 0 <;> by_cases h2 : placeBad0 b p = 0 <;> simp [h, h2]
/-- how near two rectangles are -/
def dist (x y : Rect) : Int :=
  let n := max (max (max (w64 (x.X0 - y.X1)) (w64 (y.X0 - x.X1))) (w64 (x.Y0 - y.Y1))) (w64 (y.Y0 - x.Y1))
  if n < 0 then -1 else n
theorem S_ref10_between {x y : Rect} {Q : Int → Prop} (h : Q (dist x y)) : M_ref10_between x y Q := by
  unfold M_ref10_between M_ref10_between_k1
  unfold dist at h
  generalize w64 (y.X0 - x.X1) = a1 at *
  generalize w64 (x.X0 - y.X1) = a2 at *
  generalize w64 (y.Y0 - x.Y1) = a3 at *
  generalize w64 (x.Y0 - y.Y1) = a4 at *
  dsimp only at h
  refine cnd_of (fun e => cnd_of (fun e2 => ?_) (fun e2 => ?_)) (fun e => cnd_of (fun e2 => by cases e2) (fun _ => ?_))
  · simp only [decide_eq_true_eq] at e e2
    rw [if_pos (by omega)] at h; exact h
  · simp only [decide_eq_true_eq, decide_eq_false_iff_not] at e e2
    rw [if_neg (by omega)] at h
    have : max (max (max a1 a2) (max a3 a4)) 0 = max (max (max a2 a1) a4) a3 := by omega
    rw [this]; exact h
  · simp only [decide_eq_false_iff_not] at e
    rw [if_neg (by omega)] at h
    have : max (max (max a1 a2) (max a3 a4)) 0 = max (max (max a2 a1) a4) a3 := by omega
    rw [this]; exact h
/-! ### which collide -/
def pairAt (b : List Body) (gap : Int) (i k : Nat) (p q : Place) : List Pair :=
  if (q.Below == p.Below && decide (dist (rectOf b p) (rectOf b q) < gap)) = true then [⟨(i : Int), (k : Int), dist (rectOf b p) (rectOf b q)⟩] else []
def rowTo (b : List Body) (l : List Place) (gap : Int) (i m : Nat) : List Pair := (List.range m).flatMap fun j => pairAt b gap i (i + 1 + j) (l.getD i default) (l.getD (i + 1 + j) default)
def allTo (b : List Body) (l : List Place) (gap : Int) (k : Nat) : List Pair := (List.range k).flatMap fun i => rowTo b l gap i (l.length - (i + 1))
theorem rowTo_succ (b : List Body) (l : List Place) (gap : Int) (i m : Nat) : rowTo b l gap i (m + 1) = rowTo b l gap i m ++ pairAt b gap i (i + 1 + m) (l.getD i default) (l.getD (i + 1 + m) default) := by
  unfold rowTo; rw [List.range_succ, List.flatMap_append]; simp
theorem allTo_succ (b : List Body) (l : List Place) (gap : Int) (k : Nat) : allTo b l gap (k + 1) = allTo b l gap k ++ rowTo b l gap k (l.length - (k + 1)) := by
  unfold allTo; rw [List.range_succ, List.flatMap_append]; simp
theorem pairAt_len (b : List Body) (gap : Int) (i k : Nat) (p q : Place) : (pairAt b gap i k p q).length ≤ 1 := by unfold pairAt; split <;> simp
theorem rowTo_len (b : List Body) (l : List Place) (gap : Int) (i : Nat) : ∀ m, (rowTo b l gap i m).length ≤ m
  | 0 => by simp [rowTo]
  | m + 1 => by rw [rowTo_succ, List.length_append]; have := rowTo_len b l gap i m; have := pairAt_len b gap i (i + 1 + m) (l.getD i default) (l.getD (i + 1 + m) default); omega
theorem allTo_len (b : List Body) (l : List Place) (gap : Int) (hl : l.length ≤ 1000) : ∀ k, (allTo b l gap k).length ≤ 1000 * k
  | 0 => by simp [allTo]
  | k + 1 => by rw [allTo_succ, List.length_append]; have := allTo_len b l gap hl k; have := rowTo_len b l gap k (l.length - (k + 1)); omega
theorem coll_row {b : List Body} {l : List Place} {gap : Int} (hl : l.length ≤ 1000) {i : Nat} {p : Place} (hp : l[i]? = some p) {F : (List Pair × Int → Prop) → List Pair × Int → Prop} {next : List Pair → Prop}
    (hF : ∀ (X : List Pair × Int → Prop) (ps : List Pair) (k : Nat) (q : Place), ps.length ≤ 2000000 → l[k]? = some q → X (ps ++ pairAt b gap i k p q, ((k + 1 : Nat) : Int)) → F X (ps, (k : Int)))
    (hd : ∀ X ps, next ps → F X (ps, (l.length : Int))) (h : next (allTo b l gap (i + 1))) : lp F (allTo b l gap i, ((i + 1 : Nat) : Int)) := by
  have hi := lt_of_get hp
  refine lp_upto (fun m => (allTo b l gap i ++ rowTo b l gap i m, ((i + 1 + m : Nat) : Int))) (l.length - (i + 1)) (by simp [rowTo]) (fun X m hm hX => ?_) (fun X => ?_)
  · have hk : i + 1 + m < l.length := by omega
    have h1 := allTo_len b l gap hl i
    have h2 := rowTo_len b l gap i m
    refine hF X _ (i + 1 + m) _ ?_ (List.getElem?_eq_getElem hk) ?_
    · rw [List.length_append]; omega
    · have e : rowTo b l gap i (m + 1) = rowTo b l gap i m ++ pairAt b gap i (i + 1 + m) p l[i + 1 + m] := by
        rw [rowTo_succ, getD_of hp, getD_of (List.getElem?_eq_getElem hk)]
      rw [List.append_assoc, ← e]
      exact hX
  · have e : ((i + 1 + (l.length - (i + 1)) : Nat) : Int) = (l.length : Int) := by congr 1; omega
    show F X (_, _)
    rw [e]
    refine hd X _ ?_
    rw [← allTo_succ]; exact h
def collFault (b : List Body) (l : List Place) (gap : Int) : Int := if placesFault b l ≠ 0 then placesFault b l else if within gap 0 100000 = false then 1 else 0
def collOf (b : List Body) (l : List Place) (gap : Int) : List Pair := if collFault b l gap ≠ 0 then [] else allTo b l gap l.length
theorem append_pair {ps ys : List Pair} {c : Bool} {P : List Pair → Prop} {y : Pair} (h0 : ps.length ≤ 2000000) (hy : ys = if c = true then [y] else []) (h : P (ps ++ ys)) :
    cnd c (must (room (ps ++ [y]).length 24) (P (ps ++ [y]))) (P ps) := by
  subst hy
  refine cnd_of (fun e => ⟨room_of (by simp only [List.length_append, List.length_singleton]; omega) (by omega), ?_⟩) (fun e => ?_)
  · rw [if_pos e] at h; exact h
  · rw [if_neg (by rw [e]; simp), List.append_nil] at h; exact h
theorem S_mount_Collisions {b : List Body} (hb : Fits.fits b) {l : List Place} (hlf : Fits.fits l) {gap : Int} {Q : List Pair → Int → Prop} (h : Q (collOf b l gap) (collFault b l gap)) : M_mount_Collisions b l gap Q := by
  unfold M_mount_Collisions
  refine S_mount_CheckPlaces hb hlf (cnd_of (fun e => ?_) (fun e => ?_))
  · have e' : placesFault b l ≠ 0 := by simpa using e
    unfold collOf collFault at h
    rw [if_pos e', if_pos e'] at h; exact h
  have e' : placesFault b l = 0 := by simpa using e
  have hok := places_ok e'
  have hc : collFault b l gap = if within gap 0 100000 = false then 1 else 0 := by unfold collFault; rw [if_neg (by simp [e'])]
  refine cnd_of (fun e2 => ?_) (fun e2 => ?_)
  · rw [if_pos (by simpa using e2)] at hc
    unfold collOf at h
    rw [hc, if_pos (by decide)] at h; exact h
  rw [if_neg (by simpa using e2)] at hc
  unfold collOf at h
  rw [hc, if_neg (by decide)] at h
  have hl := hok.len
  refine forIn0 (fun k ps => ps = allTo b l gap k) (by simp [allTo]) (fun k x ps hx hI next hn => ?_) (fun ps hI => by subst hI; exact h)
  subst hI
  have hk := lt_of_get hx
  unfold M_mount_Collisions_L1
  refine S_mount_taken hok.bodies ?_
  refine coll_row hl hx (next := next) (fun X ps m q hps hq hX => ?_) (fun X ps hX => ?_) (hn _ rfl)
  · have hm := lt_of_get hq
    unfold M_mount_Collisions_L2
    refine cnd_of (fun _ => idx_nat hq (S_mount_taken hok.bodies ?_)) (fun e => by simp at e; omega)
    have hw : w64 ((m : Int) + 1) = ((m + 1 : Nat) : Int) := by rw [w64_id] <;> omega
    have key : M_mount_Collisions_k3 gap k x ps (m : Int) (fun l4 n2 => X (l4, n2)) q (dist (rectOf b x) (rectOf b q)) := by
      unfold M_mount_Collisions_k3 M_mount_Collisions_k4
      rw [hw]
      refine cnd_of (fun c => append_pair (ys := pairAt b gap k m x q) (P := fun ps => X (ps, ((m + 1 : Nat) : Int))) hps ?_ hX) (fun c => append_pair (ys := pairAt b gap k m x q) (P := fun ps => X (ps, ((m + 1 : Nat) : Int))) hps ?_ hX) <;> unfold pairAt <;> rw [c] <;> simp
    unfold dist at key
    dsimp only at key
    refine cnd_of (fun c => ?_) (fun c => ?_)
    · rw [if_pos (by simpa using c)] at key; exact key
    · rw [if_neg (by simpa using c)] at key; exact key
  · unfold M_mount_Collisions_L2
    exact cnd_of (fun e => by simp at e) (fun _ => hX)
theorem S_ref10_Collisions {b : List Body} (hb : Fits.fits b) {l : List Place} (hlf : ∀ p ∈ l, p.Part.length < 4294967281) {gap : Int} {Q : List Pair → Int → Prop} (h : Q (collOf b l gap) (collFault b l gap)) : M_ref10_Collisions b l gap Q := by
  unfold M_ref10_Collisions
  refine S_ref10_CheckPlaces hb hlf (cnd_of (fun e => ?_) (fun e => ?_))
  · have e' : placesFault b l ≠ 0 := by simpa using e
    unfold collOf collFault at h
    rw [if_pos e', if_pos e'] at h; exact h
  have e' : placesFault b l = 0 := by simpa using e
  have hok := places_ok e'
  have hc : collFault b l gap = if within gap 0 100000 = false then 1 else 0 := by unfold collFault; rw [if_neg (by simp [e'])]
  refine cnd_of (fun e2 => ?_) (fun e2 => ?_)
  · rw [if_pos (by simpa using e2)] at hc
    unfold collOf at h
    rw [hc, if_pos (by decide)] at h; exact h
  rw [if_neg (by simpa using e2)] at hc
  unfold collOf at h
  rw [hc, if_neg (by decide)] at h
  have hl := hok.len
  refine forIn0 (fun k ps => ps = allTo b l gap k) (by simp [allTo]) (fun k x ps hx hI next hn => ?_) (fun ps hI => by subst hI; exact h)
  subst hI
  have hk := lt_of_get hx
  unfold M_ref10_Collisions_L1
  refine coll_row hl hx (next := next) (fun X ps m q hps hq hX => ?_) (fun X ps hX => ?_) (hn _ rfl)
  · have hm := lt_of_get hq
    unfold M_ref10_Collisions_L2
    refine cnd_of (fun _ => idx_nat hq (S_ref10_taken (hok.each x (List.mem_of_getElem? hx)).2.1 (S_ref10_taken (hok.each q (List.mem_of_getElem? hq)).2.1 (S_ref10_between ?_)))) (fun e => by simp at e; omega)
    have hw : w64 ((m : Int) + 1) = ((m + 1 : Nat) : Int) := by rw [w64_id] <;> omega
    unfold M_ref10_Collisions_k3
    rw [hw, show (x.Below == q.Below) = (q.Below == x.Below) from BEq.comm]
    refine cnd_of (fun c => append_pair (ys := pairAt b gap k m x q) (P := fun ps => X (ps, ((m + 1 : Nat) : Int))) hps ?_ hX) (fun c => append_pair (ys := pairAt b gap k m x q) (P := fun ps => X (ps, ((m + 1 : Nat) : Int))) hps ?_ hX) <;> unfold pairAt <;> rw [c] <;> simp
  · unfold M_ref10_Collisions_L2
    exact cnd_of (fun e => by simp at e) (fun _ => hX)
theorem S_equal_pair {xs ys : List Pair} {Q : Bool → Prop} (h : Q (decide (xs = ys))) : M_equal_pair xs ys Q := by
  unfold M_equal_pair
  exact equal_loop (fun k x next hq => hq) h
theorem law_Taken_true (b : List Body) (l : List Place) (p : Place) (gap : Int) (hb : Fits.fits b) (hl : Fits.fits l) (hp : Fits.fits p) (hs : ∀ q ∈ l, q.Part.length < 4294967281) (hsp : p.Part.length < 4294967281) : M_law_Taken b l p gap (· = true) := by
  unfold M_law_Taken M_mount_Taken
  have hf1 : Fits.fits [p] := fun x hx => by rw [List.mem_singleton.1 hx]; exact hp
  have key : M_law_Taken_k1 b l gap (· = true) false := by
    unfold M_law_Taken_k1
    simp only [cnd_false]
    refine S_mount_Collisions hb hl (S_ref10_Collisions hb hs ?_)
    simp only [beq_self_eq_true, cnd_true]
    refine S_equal_pair ?_
    simp only [decide_true, cnd_true]
    exact S_awake rfl
  refine S_mount_CheckPlaces hb hf1 ?_
  rw [places_one]
  by_cases e0 : bodiesFault b = 0
  · rw [if_neg (by simp [e0])]
    have hR : ∀ {Q : Rect → Int → Prop}, cnd (placeBad0 b p != 0) (Q ⟨0, 0, 0, 0⟩ (placeBad0 b p)) (M_ref10_taken b p fun y3 => Q y3 0) → M_ref10_Taken b p Q := by
      intro Q h
      unfold M_ref10_Taken
      refine S_ref10_CheckBodies hb ?_
      simp only [e0, bne_self_eq_false, cnd_false]
      exact S_ref10_checkPlace hsp h
    refine cnd_of (fun e => hR ?_) (fun e => ?_)
    · rw [e, cnd_true]
      simp only [bne_self_eq_false, cnd_false, decide_true, Bool.not_true]
      exact key
    · have e1 : placeBad0 b p = 0 := by simpa using e
      have hok := places_ok (b := b) (l := [p]) (by rw [places_one, if_neg (by simp [e0]), e1])
      refine S_mount_taken hok.bodies (hR ?_)
      rw [e1]
      simp only [bne_self_eq_false, cnd_false]
      refine S_ref10_taken (hok.each p (List.mem_singleton.2 rfl)).2.1 ?_
      simp only [bne_self_eq_false, cnd_false, decide_true, Bool.not_true]
      exact key
  · rw [if_pos e0]
    have e1 : (bodiesFault b != 0) = true := by simpa using e0
    rw [e1, cnd_true]
    unfold M_ref10_Taken
    refine S_ref10_CheckBodies hb ?_
    rw [e1, cnd_true]
    simp only [bne_self_eq_false, cnd_false, decide_true, Bool.not_true]
    exact key
theorem parts_small {l : List Place} (h : Bulk.bk l ≤ 1048576) : ∀ p ∈ l, p.Part.length < 4294967281 := fun p hp => by
  have h1 := bulk_mem hp
  have h2 : Bulk.bk p.Part ≤ Bulk.bk p := Nat.le_add_right _ _
  have h3 : p.Part.length + 1 ≤ Bulk.bk p.Part := Nat.le_refl _
  omega
theorem law_Taken_upto (b : List Body) (l : List Place) (p : Place) (gap : Int) (hb : Fits.fits b) (hl : Fits.fits l) (hp : Fits.fits p) (k1 : Bulk.bk l ≤ 1048576) (k2 : Bulk.bk p ≤ 1048576) : M_law_Taken b l p gap (· = true) := by
  refine law_Taken_true b l p gap hb hl hp (parts_small k1) ?_
  have h2 : Bulk.bk p.Part ≤ Bulk.bk p := Nat.le_add_right _ _
  have h3 : p.Part.length + 1 ≤ Bulk.bk p.Part := Nat.le_refl _
  omega
end Go.Proofs.YtcmlcgjjkccaeaaDoor

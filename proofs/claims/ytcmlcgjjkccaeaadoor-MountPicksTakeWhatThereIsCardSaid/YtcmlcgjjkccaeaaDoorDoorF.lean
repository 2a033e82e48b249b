/- Chapter 10: places moved by the same collide as before. -/
import Derived.Test.YtcmlcgjjkccaeaaDoorDoorE
namespace Go.Proofs.YtcmlcgjjkccaeaaDoor
open Go Go.RowKit
set_option linter.unusedVariables false

def moveX (by_ : Point) (x : Place) : Place := ⟨x.Part, x.Typ, (⟨w64 (x.At.X + by_.X), x.At.Y⟩ : Point), x.Quarters, x.Below⟩
def moveP (by_ : Point) (x : Place) : Place := ⟨x.Part, x.Typ, (⟨w64 (x.At.X + by_.X), w64 (x.At.Y + by_.Y)⟩ : Point), x.Quarters, x.Below⟩
theorem moved_fits {by_ : Point} {l : List Place} (h : Fits.fits l) : Fits.fits (l.map (moveP by_)) := fun x hx => by
  obtain ⟨y, hy, rfl⟩ := List.mem_map.1 hx
  obtain ⟨h1, h2, h3, h4, h5⟩ := h y hy
  exact ⟨h1, h2, ⟨trivial, trivial⟩, trivial, trivial⟩
theorem half_small {n : Int} (h0 : 0 ≤ n) (h1 : n ≤ 100000) : 0 ≤ half n ∧ half n ≤ 50000 := by
  unfold half
  have : n.tdiv 2 = n / 2 := Int.tdiv_eq_ediv_of_nonneg h0
  rw [this, w64_id] <;> omega
theorem rect_small {p : Place} {n : Int × Int} (hp : at0 p = true) (h1 : 0 ≤ n.1 ∧ n.1 ≤ 100000) (h2 : 0 ≤ n.2 ∧ n.2 ≤ 100000) :
    rect p n = ⟨p.At.X - half n.1, p.At.Y - half n.2, p.At.X - half n.1 + n.1, p.At.Y - half n.2 + n.2⟩ := by
  have a := half_small h1.1 h1.2
  have b := half_small h2.1 h2.2
  unfold at0 within at hp
  simp only [Bool.and_eq_true, decide_eq_true_eq] at hp
  unfold rect
  have e1 : w64 (p.At.X - half n.1) = p.At.X - half n.1 := by rw [w64_id] <;> omega
  have e2 : w64 (p.At.Y - half n.2) = p.At.Y - half n.2 := by rw [w64_id] <;> omega
  have e3 : w64 (p.At.X - half n.1 + n.1) = p.At.X - half n.1 + n.1 := by rw [w64_id] <;> omega
  have e4 : w64 (p.At.Y - half n.2 + n.2) = p.At.Y - half n.2 + n.2 := by rw [w64_id] <;> omega
  rw [e1, e2, e3, e4]
theorem wh_small {b : List Body} (hb : BodiesOk b) {p : Place} (hs : (bodyAt b p.Typ).isSome = true) : (0 ≤ (wh b p).1 ∧ (wh b p).1 ≤ 100000) ∧ 0 ≤ (wh b p).2 ∧ (wh b p).2 ≤ 100000 := by
  unfold wh
  cases hf : bodyAt b p.Typ with
  | none => rw [hf] at hs; cases hs
  | some x =>
    have := hb.each x (List.mem_of_find?_eq_some hf)
    unfold within at this
    simp only [Bool.and_eq_true, decide_eq_true_eq] at this
    simp only [Option.getD_some]
    split <;> simp only <;> omega
theorem dist_moved {b : List Body} {by_ : Point} {p q : Place} (hb : BodiesOk b) (hp : at0 p = true) (hq : at0 q = true) (hp' : at0 (moveP by_ p) = true) (hq' : at0 (moveP by_ q) = true) (sp : (bodyAt b p.Typ).isSome = true) (sq : (bodyAt b q.Typ).isSome = true)
    (hx : -1000000 ≤ by_.X ∧ by_.X ≤ 1000000) (hy : -1000000 ≤ by_.Y ∧ by_.Y ≤ 1000000) : dist (rectOf b (moveP by_ p)) (rectOf b (moveP by_ q)) = dist (rectOf b p) (rectOf b q) := by
  have wp := wh_small hb sp
  have wq := wh_small hb sq
  have ap := half_small wp.1.1 wp.1.2
  have bp := half_small wp.2.1 wp.2.2
  have aq := half_small wq.1.1 wq.1.2
  have bq := half_small wq.2.1 wq.2.2
  have e1 : rectOf b (moveP by_ p) = rect (moveP by_ p) (wh b p) := rfl
  have e2 : rectOf b (moveP by_ q) = rect (moveP by_ q) (wh b q) := rfl
  have e3 : rectOf b p = rect p (wh b p) := rfl
  have e4 : rectOf b q = rect q (wh b q) := rfl
  rw [e1, e2, e3, e4, rect_small hp' wp.1 wp.2, rect_small hq' wq.1 wq.2, rect_small hp wp.1 wp.2, rect_small hq wq.1 wq.2]
  unfold at0 within at hp hq hp' hq'
  simp only [Bool.and_eq_true, decide_eq_true_eq] at hp hq hp' hq'
  have m1 : (moveP by_ p).At.X = p.At.X + by_.X := by show w64 _ = _; rw [w64_id] <;> omega
  have m2 : (moveP by_ p).At.Y = p.At.Y + by_.Y := by show w64 _ = _; rw [w64_id] <;> omega
  have m3 : (moveP by_ q).At.X = q.At.X + by_.X := by show w64 _ = _; rw [w64_id] <;> omega
  have m4 : (moveP by_ q).At.Y = q.At.Y + by_.Y := by show w64 _ = _; rw [w64_id] <;> omega
  rw [m1, m2, m3, m4]
  unfold dist
  dsimp only
  generalize half (wh b p).1 = a1 at *
  generalize half (wh b p).2 = a2 at *
  generalize half (wh b q).1 = a3 at *
  generalize half (wh b q).2 = a4 at *
  have t1 : p.At.X + by_.X - a1 - (q.At.X + by_.X - a3 + (wh b q).1) = p.At.X - a1 - (q.At.X - a3 + (wh b q).1) := by omega
  have t2 : q.At.X + by_.X - a3 - (p.At.X + by_.X - a1 + (wh b p).1) = q.At.X - a3 - (p.At.X - a1 + (wh b p).1) := by omega
  have t3 : p.At.Y + by_.Y - a2 - (q.At.Y + by_.Y - a4 + (wh b q).2) = p.At.Y - a2 - (q.At.Y - a4 + (wh b q).2) := by omega
  have t4 : q.At.Y + by_.Y - a4 - (p.At.Y + by_.Y - a2 + (wh b p).2) = q.At.Y - a4 - (p.At.Y - a2 + (wh b p).2) := by omega
  rw [t1, t2, t3, t4]
theorem coll_moved {b : List Body} {l : List Place} {gap : Int} {by_ : Point} (h : PlacesOk b l) (h' : PlacesOk b (l.map (moveP by_))) (hx : -1000000 ≤ by_.X ∧ by_.X ≤ 1000000) (hy : -1000000 ≤ by_.Y ∧ by_.Y ≤ 1000000) :
    ∀ k, k ≤ l.length → allTo b (l.map (moveP by_)) gap k = allTo b l gap k := by
  have row : ∀ i m, i < l.length → i + 1 + m ≤ l.length → rowTo b (l.map (moveP by_)) gap i m = rowTo b l gap i m := by
    intro i m
    induction m with
    | zero => intro _ _; rfl
    | succ m ih =>
      intro hi hm
      rw [rowTo_succ, rowTo_succ, ih hi (by omega)]
      congr 1
      have gi : l[i]? = some l[i] := List.getElem?_eq_getElem hi
      have gk : l[i + 1 + m]? = some (l[i + 1 + m]'(by omega)) := List.getElem?_eq_getElem (by omega)
      have gi' : (l.map (moveP by_))[i]? = some (moveP by_ l[i]) := by rw [List.getElem?_map, gi]; rfl
      have gk' : (l.map (moveP by_))[i + 1 + m]? = some (moveP by_ (l[i + 1 + m]'(by omega))) := by rw [List.getElem?_map, gk]; rfl
      rw [getD_of gi, getD_of gk, getD_of gi', getD_of gk']
      have oi := h.each _ (List.mem_of_getElem? gi)
      have ok := h.each _ (List.mem_of_getElem? gk)
      have oi' := h'.each _ (List.mem_of_getElem? gi')
      have ok' := h'.each _ (List.mem_of_getElem? gk')
      unfold pairAt
      rw [dist_moved h.bodies oi.2.2 ok.2.2 oi'.2.2 ok'.2.2 oi.2.1 ok.2.1 hx hy]
      rfl
  intro k
  induction k with
  | zero => intro _; rfl
  | succ k ih =>
    intro hk
    rw [allTo_succ, allTo_succ, ih (by omega), List.length_map, row k _ (by omega) (by omega)]
theorem law_Moved_true (b : List Body) (l : List Place) (gap : Int) (by_ : Point) (hb : Fits.fits b) (hl : Fits.fits l) (hr : l.length * 64 ≤ 140737488351232) : M_law_Moved b l gap by_ (· = true) := by
  unfold M_law_Moved
  have aw : M_awake (fun y => y = true) := S_awake rfl
  refine clone_step (room_of (by omega) (by omega)) (Q := fun y1 => lp (fun again (s : List Place × Int) => M_law_Moved_L1 b l gap by_ (· = true) y1 (fun l2 n2 => again (l2, n2)) s.1 s.2) (y1, 0)) ?_
  by_cases hin : (-1000000 ≤ by_.X ∧ by_.X ≤ 1000000) ∧ (-1000000 ≤ by_.Y ∧ by_.Y ≤ 1000000)
  · obtain ⟨hx, hy⟩ := hin
    have c1 : decide (by_.X < -1000000) = false := by simp; omega
    have c2 : decide (by_.X > 1000000) = false := by simp; omega
    have c3 : decide (by_.Y < -1000000) = false := by simp; omega
    have c4 : decide (by_.Y > 1000000) = false := by simp; omega
    refine lp_upto (fun m => ((l.take m).map (moveP by_) ++ l.drop m, (m : Int))) l.length (by simp) (fun X m hm hX => ?_) (fun X => ?_)
    · unfold M_law_Moved_L1 M_law_Moved_k2
      simp only [c1, c2, c3, c4, cnd_false]
      refine cnd_of (fun _ => ?_) (fun e => by simp at e; omega)
      have hlen : ((l.take m).map (moveP by_)).length = m := by rw [List.length_map, List.length_take]; omega
      have gm : ((l.take m).map (moveP by_) ++ l.drop m)[m]? = some (l[m]'hm) := by
        rw [List.getElem?_append_right (by omega), hlen, Nat.sub_self, List.getElem?_drop]
        exact List.getElem?_eq_getElem hm
      have hset : ∀ y z : Place, (((l.take m).map (moveP by_) ++ l.drop m).set m y).set m z = (l.take m).map (moveP by_) ++ z :: l.drop (m + 1) := fun y z => by
        rw [List.set_set, List.set_append, if_neg (by omega), hlen, Nat.sub_self, List.drop_eq_getElem_cons hm]
        rfl
      have hw : w64 ((m : Int) + 1) = ((m + 1 : Nat) : Int) := by rw [w64_id] <;> omega
      refine idx_nat gm (idx_nat (x := moveX by_ (l[m]'hm)) ?_ ?_)
      · have hml : m < ((l.take m).map (moveP by_) ++ l.drop m).length := lt_of_get gm
        simp only [Int.toNat_natCast]
        rw [List.getElem?_set_self hml]; rfl
      · simp only [Int.toNat_natCast]
        rw [hset, hw]
        have e : (l.take m).map (moveP by_) ++ (moveP by_ (l[m]'hm)) :: l.drop (m + 1) = (l.take (m + 1)).map (moveP by_) ++ l.drop (m + 1) := by
          rw [List.take_add_one, List.map_append, List.getElem?_eq_getElem hm]
          simp
        show X (_, _)
        have e2 : (⟨(moveX by_ (l[m]'hm)).Part, (moveX by_ (l[m]'hm)).Typ, (⟨(moveX by_ (l[m]'hm)).At.X, w64 ((moveX by_ (l[m]'hm)).At.Y + by_.Y)⟩ : Point), (moveX by_ (l[m]'hm)).Quarters, (moveX by_ (l[m]'hm)).Below⟩ : Place) = moveP by_ (l[m]'hm) := rfl
        rw [e2, e]
        exact hX
    · unfold M_law_Moved_L1
      refine cnd_of (fun e => by simp at e) (fun _ => ?_)
      have e : (l.take l.length).map (moveP by_) ++ l.drop l.length = l.map (moveP by_) := by simp
      dsimp only
      rw [e]
      refine S_mount_Collisions hb hl (S_mount_Collisions hb (moved_fits hl) ?_)
      unfold M_law_Moved_k3
      by_cases f0 : collFault b l gap = 0
      · simp only [f0, bne_self_eq_false, cnd_false, beq_self_eq_true, cnd_true]
        refine cnd_of (fun _ => aw) (fun e1 => ?_)
        have f1 : collFault b (l.map (moveP by_)) gap = 0 := by simpa using e1
        have ok : PlacesOk b l := by
          refine places_ok ?_
          unfold collFault at f0
          split at f0
          · contradiction
          · rename_i h; exact Decidable.not_not.1 h
        have ok' : PlacesOk b (l.map (moveP by_)) := by
          refine places_ok ?_
          unfold collFault at f1
          split at f1
          · contradiction
          · rename_i h; exact Decidable.not_not.1 h
        refine S_equal_pair ?_
        have : collOf b l gap = collOf b (l.map (moveP by_)) gap := by
          unfold collOf
          rw [f0, f1, if_neg (by decide), if_neg (by decide), List.length_map, coll_moved ok ok' hx hy _ (Nat.le_refl _)]
        rw [this]
        simp only [decide_true, cnd_true]
        exact aw
      · have e1 : (collFault b l gap != 0) = true := by simpa using f0
        have e2 : (collFault b l gap == 0) = false := by simpa using f0
        have e3 : collOf b l gap = [] := by unfold collOf; rw [if_pos f0]
        rw [e1, e2, e3]
        simp only [cnd_true, cnd_false]
        exact cnd_of (fun _ => aw) (fun e => by simp at e)
  · refine lp_intro (fun s => s = (l, 0)) (fun _ => 0) rfl ?_
    rintro X _ rfl _
    unfold M_law_Moved_L1 M_law_Moved_k2
    refine cnd_of (fun _ => ?_) (fun e => ?_)
    · have aw1 : cnd true (M_awake (fun y => y = true)) (idx l 0 fun x1 => idx (l.set 0 (⟨x1.Part, x1.Typ, (⟨w64 (x1.At.X + by_.X), x1.At.Y⟩ : Point), x1.Quarters, x1.Below⟩ : Place)) 0 fun x2 => X (((l.set 0 (⟨x1.Part, x1.Typ, (⟨w64 (x1.At.X + by_.X), x1.At.Y⟩ : Point), x1.Quarters, x1.Below⟩ : Place)).set 0 (⟨x2.Part, x2.Typ, (⟨x2.At.X, w64 (x2.At.Y + by_.Y)⟩ : Point), x2.Quarters, x2.Below⟩ : Place)), w64 (0 + 1))) := cnd_of (fun _ => aw) (fun e => by cases e)
      refine cnd_of (fun _ => aw1) (fun c1 => cnd_of (fun _ => aw1) (fun c2 => cnd_of (fun _ => aw1) (fun c3 => cnd_of (fun _ => aw) (fun c4 => ?_))))
      simp at c1 c2 c3 c4
      exact absurd ⟨⟨c1, c2⟩, c3, c4⟩ hin
    · have : l = [] := by
        cases l with
        | nil => rfl
        | cons x r => simp at e
      subst this
      refine S_mount_Collisions hb hl (S_mount_Collisions hb hl ?_)
      unfold M_law_Moved_k3
      by_cases f0 : collFault b [] gap = 0
      · simp only [f0, bne_self_eq_false, cnd_false]
        refine S_equal_pair ?_
        simp only [decide_true, cnd_true]
        exact aw
      · have e1 : (collFault b [] gap != 0) = true := by simpa using f0
        have e2 : (collFault b [] gap == 0) = false := by simpa using f0
        have e3 : collOf b [] gap = [] := by unfold collOf; rw [if_pos f0]
        rw [e1, e2, e3]
        simp only [cnd_true, cnd_false]
        exact cnd_of (fun _ => aw) (fun e => by simp at e)
end Go.Proofs.YtcmlcgjjkccaeaaDoor

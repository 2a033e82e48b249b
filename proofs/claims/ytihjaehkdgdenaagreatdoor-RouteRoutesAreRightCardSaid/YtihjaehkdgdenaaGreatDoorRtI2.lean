/- Chapter texts of ours, as far as the claim needs them. -/
import Derived.Test.YtihjaehkdgdenaaGreatDoorRtH
import Derived.Test.YtihjaehkdgdenaaGreatDoorRtG2
namespace Go.Proofs.YtihjaehkdgdenaaGreatDoor
open Go Go.RowKit
set_option linter.unusedVariables false
set_option linter.unusedSectionVars false
set_option linter.unusedSimpArgs false
section
variable {g : Grid} {a b : Cell}
theorem S_axis (hs : Sz g) (ha : inG g a = true) (hb : inG g b = true) {Q : Int → Prop} (h : Q (axC a b)) : M_route_axis a b Q := by
  obtain ⟨ax, ay, az⟩ := inG_iff.1 ha
  obtain ⟨bx, by_, bz⟩ := inG_iff.1 hb
  have hW := hs.W; have hH := hs.H; have hL := hs.L
  obtain ⟨e1, p1, q1⟩ := df_w64 (p := a.X) (q := b.X) (by omega) (by omega)
  obtain ⟨e2, p2, q2⟩ := df_w64 (p := a.Y) (q := b.Y) (by omega) (by omega)
  obtain ⟨e3, p3, q3⟩ := df_w64 (p := a.Layer) (q := b.Layer) (by omega) (by omega)
  unfold M_route_axis M_route_axis_k1 M_route_axis_k2 M_route_axis_k3
  rw [e1, e2, e3]
  unfold axC at h
  generalize df a.X b.X = x at *
  generalize df a.Y b.Y = y at *
  generalize df a.Layer b.Layer = z at *
  rw [w64_id (n := y + z) (by omega) (by omega), w64_id (n := x + z) (by omega) (by omega), w64_id (n := x + y) (by omega) (by omega)]
  refine cnd_and ?_
  by_cases h1 : x = 1 ∧ y + z = 0
  · rw [if_pos h1] at h; rw [if_pos (by simpa using h1)]; exact h
  rw [if_neg h1] at h; rw [if_neg (by simpa using h1)]
  refine cnd_and ?_
  by_cases h2 : y = 1 ∧ x + z = 0
  · rw [if_pos h2] at h; rw [if_pos (by simpa using h2)]; exact h
  rw [if_neg h2] at h; rw [if_neg (by simpa using h2)]
  refine cnd_and ?_
  by_cases h3 : z = 1 ∧ x + y = 0
  · rw [if_pos h3] at h; rw [if_pos (by simpa using h3)]; exact h
  rw [if_neg h3] at h; rw [if_neg (by simpa using h3)]; exact h
end
def wayBad (g : Grid) (w : List Cell) (k : Nat) (x : Cell) : Int :=
  if inG g x = false then 1 else if x ∈ g.Blocked then 14 else if 0 < k ∧ axC (w.getD (k - 1) default) x = 0 then 3 else if x ∈ w.take k then 7 else 0
def wayF (g : Grid) (w : List Cell) : Int := if w.length = 0 then 9 else if w.length > 40000 then 2 else firstBad (wayBad g w) w 0
theorem wayBad_in {g : Grid} {w : List Cell} {k : Nat} {x : Cell} (h : wayBad g w k x = 0) : inG g x = true ∧ x ∉ g.Blocked ∧ (0 < k → axC (w.getD (k - 1) default) x ≠ 0) ∧ x ∉ w.take k := by
  unfold wayBad at h
  split at h
  · exact absurd h (by decide)
  · rename_i e1
    split at h
    · exact absurd h (by decide)
    · rename_i e2
      split at h
      · exact absurd h (by decide)
      · rename_i e3
        split at h
        · exact absurd h (by decide)
        · rename_i e4
          exact ⟨by simpa using e1, e2, fun hk e => e3 ⟨hk, e⟩, e4⟩
theorem forIn_checkI {α σ : Type} {t : List α} {body : Nat → α → σ → (σ → Prop) → Prop} {done : σ → Prop} {Q : Int → Prop} {s : σ} (f : Nat → α → Int) (I : Nat → σ → Prop) (h0 : I 0 s)
    (hb : ∀ k x s next, t[k]? = some x → I k s → (∀ j y, j < k → t[j]? = some y → f j y = 0) → (f k x ≠ 0 → Q (f k x)) → (f k x = 0 → ∀ s', I (k + 1) s' → next s') → body k x s next)
    (h : if firstBad f t 0 = 0 then ∀ s', I t.length s' → done s' else Q (firstBad f t 0)) : forIn' body done t 0 s := by
  refine forIn0 (fun k s => I k s ∧ ∀ j y, j < k → t[j]? = some y → f j y = 0) ⟨h0, fun j y hj => by omega⟩ (fun k x s hx hI next hn => ?_) (fun s hI => ?_)
  · refine hb k x s next hx hI.1 hI.2 (fun hne => ?_) (fun h0 s' hs' => hn _ ⟨hs', fun j y hj hy => ?_⟩)
    · have h2 := firstBad_at (f := f) t 0 k x (fun j y hj hy => by rw [Nat.zero_add]; exact hI.2 j y hj hy) hx (by rw [Nat.zero_add]; exact hne)
      rw [Nat.zero_add] at h2
      rw [h2, if_neg hne] at h
      exact h
    · rcases Nat.lt_or_ge j k with hlt | hge
      · exact hI.2 j y hlt hy
      · have : j = k := by omega
        subst this; rw [hx] at hy; injection hy with hy; subst hy; exact h0
  · have := firstBad_none t 0 (f := f) (fun j y hy => by rw [Nat.zero_add]; exact hI.2 j y (lt_of_get hy) hy)
    rw [this, if_pos rfl] at h
    exact h s hI.1
theorem S_checkWay {g : Grid} (hg : GOk g) {w : List Cell} {Q : Int → Prop} (h : Q (wayF g w)) : M_route_checkWay g (noOf g) w Q := by
  unfold M_route_checkWay
  unfold wayF at h
  refine cnd_of (fun e => ?_) (fun e => cnd_of (fun e2 => ?_) (fun e2 => ?_))
  · rw [if_pos (by simp at e; simp [e])] at h; exact h
  · rw [if_neg (by simp at e e2; omega), if_pos (by simp at e2; omega)] at h; exact h
  · have hl : w.length ≤ 40000 := by simp at e2; omega
    rw [if_neg (by simp at e; simp [e]), if_neg (by omega)] at h
    refine forIn_checkI (Q := Q) (wayBad g w) (fun k m => ∀ y, (mget m y).getD false = decide (y ∈ w.take k)) (fun y => by simp [mget_nil]) (fun k x m next hx hm hI hne h0 => ?_) (by
      by_cases e9 : firstBad (wayBad g w) w 0 = 0
      · rw [if_pos e9]; rw [e9] at h; exact fun _ _ => h
      · rw [if_neg e9]; exact h)
    unfold M_route_checkWay_L1
    have hlt := lt_of_get hx
    refine S_isCell hg.sz ?_
    unfold wayBad at hne h0
    cases e6 : inG g x with
    | false => simp only [Bool.not_false, cnd_true]; rw [if_pos e6] at hne; exact hne (by decide)
    | true =>
      simp only [Bool.not_true, cnd_false]
      rw [if_neg (by simp [e6])] at hne h0
      refine S_number hg.sz e6 ?_
      refine idx_nat (noOf_cell hg e6) ?_
      refine cnd_of (fun e7 => ?_) (fun e7 => ?_)
      · rw [if_pos (by simpa using e7)] at hne; exact hne (by decide)
      · rw [if_neg (by simpa using e7)] at hne h0
        have fin : ¬ (0 < k ∧ axC (w.getD (k - 1) default) x = 0) → M_route_checkWay_k2 Q x m next false := fun hn => by
          rw [if_neg hn] at hne h0
          unfold M_route_checkWay_k2
          simp only [cnd_false]
          rw [hm]
          refine cnd_of (fun e8 => ?_) (fun e8 => ?_)
          · rw [if_pos (by simpa using e8)] at hne; exact hne (by decide)
          · rw [if_neg (by simpa using e8)] at h0
            refine h0 rfl _ (fun y => ?_)
            rw [mget_put, List.take_add_one, hx]
            split
            · rename_i e; subst e; simp
            · rename_i e; rw [hm]; refine decide_eq_decide.2 ?_; simp only [Option.toList, List.mem_append, List.mem_singleton]; exact ⟨.inl, fun hh => hh.elim id (fun h9 => absurd h9.symm e)⟩
        refine cnd_of (fun e8 => ?_) (fun e8 => ?_)
        · have hk : 0 < k := by simpa using e8
          refine prev_idx hx hk (by omega) ?_
          have hp := (wayBad_in (hI (k - 1) _ (by omega) (prev_get hx hk))).1
          refine S_axis hg.sz hp e6 ?_
          by_cases e9 : axC (w.getD (k - 1) default) x = 0
          · rw [if_pos ⟨hk, e9⟩] at hne
            rw [e9]
            unfold M_route_checkWay_k2
            show cnd true _ _
            simp only [cnd_true]; exact hne (by decide)
          · rw [show (axC (w.getD (k - 1) default) x == 0) = false from beq_eq_false_iff_ne.2 e9]
            exact fin (fun hh => e9 hh.2)
        · have hk : ¬ 0 < k := by simpa using e8
          exact fin (fun hh => hk hh.1)
def costGo (c : Costs) : Int → Cell → List Cell → Int
  | _, _, [] => 0
  | last, a, b :: r => (stepC c b.Layer last (axC a b)).1 + costGo c (stepC c b.Layer last (axC a b)).2 b r
def costW (c : Costs) : List Cell → Int
  | [] => 0
  | a :: r => costGo c 0 a r
theorem cells_of_way {g : Grid} {w : List Cell} (h : wayF g w = 0) : w.length ≤ 40000 ∧ w ≠ [] ∧ ∀ i x, w[i]? = some x → wayBad g w i x = 0 := by
  unfold wayF at h
  split at h
  · exact absurd h (by decide)
  · split at h
    · exact absurd h (by decide)
    · refine ⟨by omega, fun e => by subst e; simp at *, fun i x hx => ?_⟩
      have := firstBad_zero h i x hx
      rwa [Nat.zero_add] at this
end Go.Proofs.YtihjaehkdgdenaaGreatDoor

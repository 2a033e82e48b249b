/- Chapter 7: ways and their costs, and the least cost of a way: plain laws. -/
import Derived.Test.YtihjaehkdgdenaaRtH
namespace Go.Proofs.Ytihjaehkdgdenaa
open Go Go.RowKit
set_option linter.unusedVariables false
set_option linter.unusedSimpArgs false

def df (a b : Int) : Int := max (a - b) (b - a)
/-- the axis of a step -/
def axC (a b : Cell) : Int :=
  if df a.X b.X = 1 ∧ df a.Y b.Y + df a.Layer b.Layer = 0 then 1
  else if df a.Y b.Y = 1 ∧ df a.X b.X + df a.Layer b.Layer = 0 then 2
  else if df a.Layer b.Layer = 1 ∧ df a.X b.X + df a.Y b.Y = 0 then 3 else 0
section
variable {g : Grid} {a b : Cell}
theorem df_w64 {p q : Int} (hp : 0 ≤ p ∧ p ≤ 1000) (hq : 0 ≤ q ∧ q ≤ 1000) : max (w64 (p - q)) (w64 (q - p)) = df p q ∧ 0 ≤ df p q ∧ df p q ≤ 1000 := by
  rw [w64_id (n := p - q) (by omega) (by omega), w64_id (n := q - p) (by omega) (by omega)]
  unfold df; omega
theorem cnd_and {b c : Bool} {A B : Prop} (h : if b = true ∧ c = true then A else B) : cnd b (cnd c A B) (cnd false A B) := by
  cases b <;> cases c <;> simpa using h
theorem S_axis (hs : Sz g) (ha : inG g a = true) (hb : inG g b = true) {Q : Int → Prop} (h : Q (axC a b)) : M_route_axis a b Q := by
  obtain ⟨ax, ay, az⟩ := inG_iff.1 ha
  obtain ⟨bx, by_, bz⟩ := inG_iff.1 hb
  have hW := hs.W; have hH := hs.H; have hL := hs.L
  obtain ⟨e1, p1, q1⟩ := df_w64 (p := a.X) (q := b.X) (by omega) (by omega)
  obtain ⟨e2, p2, q2⟩ := df_w64 (p := a.Y) (q := b.Y) (by omega) (by omega)
  obtain ⟨e3, p3, q3⟩ := df_w64 (p := a.Layer) (q := b.Layer) (by omega) (by omega)
  unfold M_route_axis M_route_axis_k1 M_route_axis_k2 M_route_axis_k3
  rw [e1, e2, e3]
  unfold axC at h
  generalize df a.X b.X = x at *
  generalize df a.Y b.Y = y at *
  generalize df a.Layer b.Layer = z at *
  rw [w64_id (n := y + z) (by omega) (by omega), w64_id (n := x + z) (by omega) (by omega), w64_id (n := x + y) (by omega) (by omega)]
  refine cnd_and ?_
  by_cases h1 : x = 1 ∧ y + z = 0
  · rw [if_pos h1] at h; rw [if_pos (by simpa using h1)]; exact h
  rw [if_neg h1] at h; rw [if_neg (by simpa using h1)]
  refine cnd_and ?_
  by_cases h2 : y = 1 ∧ x + z = 0
  · rw [if_pos h2] at h; rw [if_pos (by simpa using h2)]; exact h
  rw [if_neg h2] at h; rw [if_neg (by simpa using h2)]
  refine cnd_and ?_
  by_cases h3 : z = 1 ∧ x + y = 0
  · rw [if_pos h3] at h; rw [if_pos (by simpa using h3)]; exact h
  rw [if_neg h3] at h; rw [if_neg (by simpa using h3)]; exact h
theorem S_along (hs : Sz g) (ha : inG g a = true) (hb : inG g b = true) {Q : Int → Prop} (h : Q (axC a b)) : M_ref7_along a b Q := by
  obtain ⟨ax, ay, az⟩ := inG_iff.1 ha
  obtain ⟨bx, by_, bz⟩ := inG_iff.1 hb
  have hW := hs.W; have hH := hs.H; have hL := hs.L
  have ap : ∀ p q : Int, 0 ≤ p ∧ p ≤ 1000 → 0 ≤ q ∧ q ≤ 1000 → w64 (max p q - min p q) = df p q := fun p q hp hq => by
    unfold df; rw [w64_id] <;> omega
  obtain ⟨_, p1, q1⟩ := df_w64 (p := a.X) (q := b.X) (by omega) (by omega)
  obtain ⟨_, p2, q2⟩ := df_w64 (p := a.Y) (q := b.Y) (by omega) (by omega)
  obtain ⟨_, p3, q3⟩ := df_w64 (p := a.Layer) (q := b.Layer) (by omega) (by omega)
  unfold M_ref7_along M_ref7_apart
  dsimp only
  rw [ap _ _ (by omega) (by omega), ap _ _ (by omega) (by omega), ap _ _ (by omega) (by omega)]
  unfold axC at h
  generalize df a.X b.X = x at *
  generalize df a.Y b.Y = y at *
  generalize df a.Layer b.Layer = z at *
  rw [w64_id (n := x + y) (by omega) (by omega), w64_id (n := x + y + z) (by omega) (by omega)]
  refine cnd_of (fun e => ?_) (fun e => cnd_of (fun e2 => ?_) (fun e2 => cnd_of (fun e3 => ?_) (fun e3 => ?_)))
  · simp at e
    rw [if_neg (by omega), if_neg (by omega), if_neg (by omega)] at h; exact h
  · simp at e e2
    rw [if_pos (by omega)] at h; exact h
  · simp at e e2 e3
    rw [if_neg (by omega), if_pos (by omega)] at h; exact h
  · simp at e e2 e3
    rw [if_neg (by omega), if_neg (by omega), if_pos (by omega)] at h; exact h
end
theorem S_contains_cell {s : List Cell} {v : Cell} {Q : Bool → Prop} (h : Q (decide (v ∈ s))) : M_contains_cell s v Q := by
  unfold M_contains_cell M_index_cell
  refine forIn_any (A := Q true) (fun x => decide (v = x)) (fun k x next hn => ?_) s 0 ?_
  · unfold M_index_cell_L1
    refine cnd_of (fun e => ?_) (fun e => ?_)
    · rw [if_pos e] at hn; rw [decide_eq_true (by omega)]; exact hn
    · rw [if_neg (by simp [e])] at hn; exact hn
  · have : s.any (fun x => decide (v = x)) = decide (v ∈ s) := by
      rw [Bool.eq_iff_iff, List.any_eq_true, decide_eq_true_eq]
      exact ⟨fun ⟨x, hx, e⟩ => (of_decide_eq_true e) ▸ hx, fun h => ⟨v, h, decide_eq_true rfl⟩⟩
    rw [this]
    split
    · rename_i e; rw [e] at h; exact h
    · rename_i e; rw [show decide (v ∈ s) = false by simpa using e] at h; simpa using h
/-! ### ways -/
def wayBad (g : Grid) (w : List Cell) (k : Nat) (x : Cell) : Int :=
  if inG g x = false then 1 else if x ∈ g.Blocked then 14 else if 0 < k ∧ axC (w.getD (k - 1) default) x = 0 then 3 else if x ∈ w.take k then 7 else 0
def wayF (g : Grid) (w : List Cell) : Int := if w.length = 0 then 9 else if w.length > 40000 then 2 else firstBad (wayBad g w) w 0
theorem wayBad_in {g : Grid} {w : List Cell} {k : Nat} {x : Cell} (h : wayBad g w k x = 0) : inG g x = true ∧ x ∉ g.Blocked ∧ (0 < k → axC (w.getD (k - 1) default) x ≠ 0) ∧ x ∉ w.take k := by
  unfold wayBad at h
  split at h
  · exact absurd h (by decide)
  · rename_i e1
    split at h
    · exact absurd h (by decide)
    · rename_i e2
      split at h
      · exact absurd h (by decide)
      · rename_i e3
        split at h
        · exact absurd h (by decide)
        · rename_i e4
          exact ⟨by simpa using e1, e2, fun hk e => e3 ⟨hk, e⟩, e4⟩
/-- a loop that ends with the first fault, with a state of which something is known -/
theorem forIn_checkI {α σ : Type} {t : List α} {body : Nat → α → σ → (σ → Prop) → Prop} {done : σ → Prop} {Q : Int → Prop} {s : σ} (f : Nat → α → Int) (I : Nat → σ → Prop) (h0 : I 0 s)
    (hb : ∀ k x s next, t[k]? = some x → I k s → (∀ j y, j < k → t[j]? = some y → f j y = 0) → (f k x ≠ 0 → Q (f k x)) → (f k x = 0 → ∀ s', I (k + 1) s' → next s') → body k x s next)
    (h : if firstBad f t 0 = 0 then ∀ s', I t.length s' → done s' else Q (firstBad f t 0)) : forIn' body done t 0 s := by
  refine forIn0 (fun k s => I k s ∧ ∀ j y, j < k → t[j]? = some y → f j y = 0) ⟨h0, fun j y hj => by omega⟩ (fun k x s hx hI next hn => ?_) (fun s hI => ?_)
  · refine hb k x s next hx hI.1 hI.2 (fun hne => ?_) (fun h0 s' hs' => hn _ ⟨hs', fun j y hj hy => ?_⟩)
    · have h2 := firstBad_at (f := f) t 0 k x (fun j y hj hy => by rw [Nat.zero_add]; exact hI.2 j y hj hy) hx (by rw [Nat.zero_add]; exact hne)
      rw [Nat.zero_add] at h2
      rw [h2, if_neg hne] at h
      exact h
    · rcases Nat.lt_or_ge j k with hlt | hge
      · exact hI.2 j y hlt hy
      · have : j = k := by omega
        subst this; rw [hx] at hy; injection hy with hy; subst hy; exact h0
  · have := firstBad_none t 0 (f := f) (fun j y hy => by rw [Nat.zero_add]; exact hI.2 j y (lt_of_get hy) hy)
    rw [this, if_pos rfl] at h
    exact h s hI.1
theorem S_checkWay {g : Grid} (hg : GOk g) {w : List Cell} {Q : Int → Prop} (h : Q (wayF g w)) : M_route_checkWay g (noOf g) w Q := by
  unfold M_route_checkWay
  unfold wayF at h
  refine cnd_of (fun e => ?_) (fun e => cnd_of (fun e2 => ?_) (fun e2 => ?_))
  · rw [if_pos (by simp at e; simp [e])] at h; exact h
  · rw [if_neg (by simp at e e2; omega), if_pos (by simp at e2; omega)] at h; exact h
  · have hl : w.length ≤ 40000 := by simp at e2; omega
    rw [if_neg (by simp at e; simp [e]), if_neg (by omega)] at h
    refine forIn_checkI (Q := Q) (wayBad g w) (fun k m => ∀ y, (mget m y).getD false = decide (y ∈ w.take k)) (fun y => by simp [mget_nil]) (fun k x m next hx hm hI hne h0 => ?_) (by
      by_cases e9 : firstBad (wayBad g w) w 0 = 0
      · rw [if_pos e9]; rw [e9] at h; exact fun _ _ => h
      · rw [if_neg e9]; exact h)
    unfold M_route_checkWay_L1
    have hlt := lt_of_get hx
    refine S_isCell hg.sz ?_
    unfold wayBad at hne h0
    cases e6 : inG g x with
    | false => simp only [Bool.not_false, cnd_true]; rw [if_pos e6] at hne; exact hne (by decide)
    | true =>
      simp only [Bool.not_true, cnd_false]
      rw [if_neg (by simp [e6])] at hne h0
      refine S_number hg.sz e6 ?_
      refine idx_nat (noOf_cell hg e6) ?_
      refine cnd_of (fun e7 => ?_) (fun e7 => ?_)
      · rw [if_pos (by simpa using e7)] at hne; exact hne (by decide)
      · rw [if_neg (by simpa using e7)] at hne h0
        have fin : ¬ (0 < k ∧ axC (w.getD (k - 1) default) x = 0) → M_route_checkWay_k2 Q x m next false := fun hn => by
          rw [if_neg hn] at hne h0
          unfold M_route_checkWay_k2
          simp only [cnd_false]
          rw [hm]
          refine cnd_of (fun e8 => ?_) (fun e8 => ?_)
          · rw [if_pos (by simpa using e8)] at hne; exact hne (by decide)
          · rw [if_neg (by simpa using e8)] at h0
            refine h0 rfl _ (fun y => ?_)
            rw [mget_put, List.take_add_one, hx]
            split
            · rename_i e; subst e; simp
            · rename_i e; rw [hm]; refine decide_eq_decide.2 ?_; simp only [Option.toList, List.mem_append, List.mem_singleton]; exact ⟨.inl, fun hh => hh.elim id (fun h9 => absurd h9.symm e)⟩
        refine cnd_of (fun e8 => ?_) (fun e8 => ?_)
        · have hk : 0 < k := by simpa using e8
          refine prev_idx hx hk (by omega) ?_
          have hp := (wayBad_in (hI (k - 1) _ (by omega) (prev_get hx hk))).1
          refine S_axis hg.sz hp e6 ?_
          by_cases e9 : axC (w.getD (k - 1) default) x = 0
          · rw [if_pos ⟨hk, e9⟩] at hne
            rw [e9]
            unfold M_route_checkWay_k2
            show cnd true _ _
            simp only [cnd_true]; exact hne (by decide)
          · rw [show (axC (w.getD (k - 1) default) x == 0) = false from beq_eq_false_iff_ne.2 e9]
            exact fin (fun hh => e9 hh.2)
        · have hk : ¬ 0 < k := by simpa using e8
          exact fin (fun hh => hk hh.1)
theorem S_ref_checkWay {g : Grid} (hg : GOk g) {w : List Cell} {Q : Int → Prop} (h : Q (wayF g w)) : M_ref7_checkWay g w Q := by
  unfold M_ref7_checkWay
  unfold wayF at h
  refine cnd_of (fun e => ?_) (fun e => cnd_of (fun e2 => ?_) (fun e2 => ?_))
  · rw [if_pos (by simp at e; simp [e])] at h; exact h
  · rw [if_neg (by simp at e e2; omega), if_pos (by simp at e2; omega)] at h; exact h
  · have hl : w.length ≤ 40000 := by simp at e2; omega
    rw [if_neg (by simp at e; simp [e]), if_neg (by omega)] at h
    refine forIn_checkI (Q := Q) (wayBad g w) (fun k _ => True) trivial (fun k x m next hx hm hI hne h0 => ?_) (by
      by_cases e9 : firstBad (wayBad g w) w 0 = 0
      · rw [if_pos e9]; rw [e9] at h; exact fun _ _ => h
      · rw [if_neg e9]; exact h)
    unfold M_ref7_checkWay_L1
    have hlt := lt_of_get hx
    refine S_ref_isCell hg.sz ?_
    unfold wayBad at hne h0
    cases e6 : inG g x with
    | false => simp only [Bool.not_false, cnd_true]; rw [if_pos e6] at hne; exact hne (by decide)
    | true =>
      simp only [Bool.not_true, cnd_false]
      rw [if_neg (by simp [e6])] at hne h0
      refine S_contains_cell ?_
      refine cnd_of (fun e7 => ?_) (fun e7 => ?_)
      · rw [if_pos (by simpa using e7)] at hne; exact hne (by decide)
      · rw [if_neg (by simpa using e7)] at hne h0
        have fin : ¬ (0 < k ∧ axC (w.getD (k - 1) default) x = 0) → M_ref7_checkWay_k2 w Q k x (next ()) false := fun hn => by
          rw [if_neg hn] at hne h0
          unfold M_ref7_checkWay_k2
          simp only [cnd_false]
          refine ⟨⟨Int.le_refl _, by omega, by omega⟩, ?_⟩
          refine S_contains_cell ?_
          have hseg : seg w 0 (k : Int) = w.take k := by unfold seg; simp
          rw [hseg]
          refine cnd_of (fun e8 => ?_) (fun e8 => ?_)
          · rw [if_pos (by simpa using e8)] at hne; exact hne (by decide)
          · rw [if_neg (by simpa using e8)] at h0
            exact h0 rfl () trivial
        refine cnd_of (fun e8 => ?_) (fun e8 => ?_)
        · have hk : 0 < k := by simpa using e8
          refine prev_idx hx hk (by omega) ?_
          have hp := (wayBad_in (hI (k - 1) _ (by omega) (prev_get hx hk))).1
          refine S_along hg.sz hp e6 ?_
          by_cases e9 : axC (w.getD (k - 1) default) x = 0
          · rw [if_pos ⟨hk, e9⟩] at hne
            rw [e9]
            unfold M_ref7_checkWay_k2
            show cnd true _ _
            simp only [cnd_true]; exact hne (by decide)
          · rw [show (axC (w.getD (k - 1) default) x == 0) = false from beq_eq_false_iff_ne.2 e9]
            exact fin (fun hh => e9 hh.2)
        · have hk : ¬ 0 < k := by simpa using e8
          exact fin (fun hh => hk hh.1)
def checkWayF (g : Grid) (w : List Cell) : Int := if gridF g ≠ 0 then gridF g else wayF g w
theorem S_CheckWay {g : Grid} {w : List Cell} {Q : Int → Prop} (h : Q (checkWayF g w)) : M_route_CheckWay g w Q := by
  unfold M_route_CheckWay
  unfold checkWayF at h
  refine S_CheckGrid (cnd_of (fun e => ?_) (fun e => ?_))
  · rw [if_pos (by simpa using e)] at h; exact h
  · have e' : gridF g = 0 := by simpa using e
    rw [if_neg (by simp [e'])] at h
    have hg := gridF_zero e'
    exact S_blocked hg (S_checkWay hg h)
theorem S_ref_CheckWay {g : Grid} {w : List Cell} {Q : Int → Prop} (h : Q (checkWayF g w)) : M_ref7_CheckWay g w Q := by
  unfold M_ref7_CheckWay
  unfold checkWayF at h
  refine S_ref_CheckGrid (cnd_of (fun e => ?_) (fun e => ?_))
  · rw [if_pos (by simpa using e)] at h; exact h
  · have e' : gridF g = 0 := by simpa using e
    rw [if_neg (by simp [e'])] at h
    exact S_ref_checkWay (gridF_zero e') h
/-! ### what ways cost -/
def costGo (c : Costs) : Int → Cell → List Cell → Int
  | _, _, [] => 0
  | last, a, b :: r => (stepC c b.Layer last (axC a b)).1 + costGo c (stepC c b.Layer last (axC a b)).2 b r
def costW (c : Costs) : List Cell → Int
  | [] => 0
  | a :: r => costGo c 0 a r
theorem stepC_le {c : Costs} (hc : COk c) (layer last al : Int) : 0 ≤ (stepC c layer last al).1 ∧ (stepC c layer last al).1 ≤ 3000 := by
  have h1 := hc.step; have h2 := hc.via; have h3 := hc.turn; have h4 := hc.agn
  have e1 : w64 (c.Step + c.Against) = c.Step + c.Against := w64_id (by omega) (by omega)
  have e2 : w64 (c.Step + c.Against + c.Turn) = c.Step + c.Against + c.Turn := w64_id (by omega) (by omega)
  have e3 : w64 (c.Step + c.Turn) = c.Step + c.Turn := w64_id (by omega) (by omega)
  unfold stepC
  split
  · simp only; omega
  · simp only
    split <;> split <;> (try simp only [e1, e2, e3]) <;> omega
theorem S_ref_stepCost {c : Costs} {layer last al : Int} {Q : Int → Prop} (h : Q (stepC c layer last al).1) : M_ref7_stepCost c layer al last Q := by
  have := E_stepC c layer last al (Q := fun n _ => Q n) h
  unfold M_route_stepCost M_route_stepCost_k1 M_route_stepCost_k3 M_route_stepCost_k2 at this
  unfold M_ref7_stepCost M_ref7_stepCost_k1 M_ref7_stepCost_k2
  exact this
theorem stepC_last (c : Costs) (layer last al : Int) : (stepC c layer last al).2 = if al = 3 then last else al := by
  unfold stepC; split <;> rfl
theorem cells_of_way {g : Grid} {w : List Cell} (h : wayF g w = 0) : w.length ≤ 40000 ∧ w ≠ [] ∧ ∀ i x, w[i]? = some x → wayBad g w i x = 0 := by
  unfold wayF at h
  split at h
  · exact absurd h (by decide)
  · split at h
    · exact absurd h (by decide)
    · refine ⟨by omega, fun e => by subst e; simp at *, fun i x hx => ?_⟩
      have := firstBad_zero h i x hx
      rwa [Nat.zero_add] at this
theorem cost_drop {c : Costs} {w : List Cell} {k : Nat} (hk : k < w.length) (last : Int) {a : Cell} : costGo c last a (w.drop k) = (stepC c (w.getD k default).Layer last (axC a (w.getD k default))).1 + costGo c (stepC c (w.getD k default).Layer last (axC a (w.getD k default))).2 (w.getD k default) (w.drop (k + 1)) := by
  have e : w.drop k = w.getD k default :: w.drop (k + 1) := by
    rw [List.getD_eq_getElem?_getD, List.getElem?_eq_getElem hk]; exact List.drop_eq_getElem_cons hk
  rw [e]; rfl
/-- both sums of costs go so -/
theorem cost_loop {g : Grid} (hg : GOk g) {c : Costs} (hc : COk c) {w : List Cell} (hw : wayF g w = 0) {F : (Int × Int × Int → Prop) → Int × Int × Int → Prop} {Q : Int → Prop}
    (hF : ∀ (X : Int × Int × Int → Prop) (n last : Int) (k : Nat), (∀ x y, 0 < k → w[k]? = some x → w[k - 1]? = some y → inG g x = true → inG g y = true → 0 ≤ n → n ≤ 3000 * k → X (n + (stepC c x.Layer last (axC y x)).1, (stepC c x.Layer last (axC y x)).2, ((k + 1 : Nat) : Int))) → (w.length ≤ k → Q n) → 0 < k → k ≤ w.length → 0 ≤ n ∧ n ≤ 3000 * k → F X (n, last, (k : Int)))
    (h : Q (costW c w)) : lp F (0, 0, 1) := by
  obtain ⟨hl, hne, hall⟩ := cells_of_way hw
  cases w with
  | nil => exact absurd rfl hne
  | cons a r =>
    refine lp_measN (fun m (s : Int × Int × Int) => ∃ k : Nat, s.2.2 = (k : Int) ∧ 0 < k ∧ k + m = (a :: r).length ∧ 0 ≤ s.1 ∧ s.1 ≤ 3000 * k ∧ s.1 + costGo c s.2.1 ((a :: r).getD (k - 1) default) ((a :: r).drop k) = costW c (a :: r)) (n := r.length) ⟨1, rfl, by omega, by simp only [List.length_cons]; omega, Int.le_refl _, by simp, by simp [costW]⟩ ?_
    rintro m ⟨n, last, i⟩ X ⟨k, hi, hk, hkm, h0, h3, hs⟩ hX
    simp only at hi h0 h3 hs
    subst hi
    refine hF X n last k (fun x y hk0 hx hy hxg hyg hn0 hn3 => ?_) (fun hge => ?_) hk (by omega) ⟨h0, h3⟩
    · have hlt := lt_of_get hx
      have ex : (a :: r).getD k default = x := getD_of hx
      have ey : (a :: r).getD (k - 1) default = y := getD_of hy
      have hsc := stepC_le hc x.Layer last (axC y x)
      rw [cost_drop hlt, ex, ey] at hs
      refine hX (m - 1) _ (by omega) ⟨k + 1, rfl, by omega, by omega, by simp only; omega, by simp only; omega, ?_⟩
      show n + (stepC c x.Layer last (axC y x)).1 + costGo c (stepC c x.Layer last (axC y x)).2 ((a :: r).getD k default) ((a :: r).drop (k + 1)) = costW c (a :: r)
      rw [ex]; omega
    · have hd : (a :: r).drop k = [] := List.drop_eq_nil_of_le hge
      rw [hd] at hs
      simp only [costGo] at hs
      rw [show n = costW c (a :: r) by omega]; exact h
theorem S_costOf {g : Grid} (hg : GOk g) {c : Costs} (hc : COk c) {w : List Cell} (hw : wayF g w = 0) {Q : Int → Prop} (h : Q (costW c w)) : M_route_costOf c w Q := by
  obtain ⟨hl, hne, hall⟩ := cells_of_way hw
  refine cost_loop hg hc hw (fun X n last k hX hQ hk hkl hn => ?_) h
  show M_route_costOf_L1 c w Q (fun n4 n5 n6 => X (n4, n5, n6)) n last k
  unfold M_route_costOf_L1
  refine cnd_of (fun e => ?_) (fun e => hQ (by simp at e; omega))
  have hlt : k < w.length := by simp at e; omega
  have hx : w[k]? = some w[k] := List.getElem?_eq_getElem hlt
  have hy : w[k - 1]? = some (w[k - 1]'(by omega)) := List.getElem?_eq_getElem (by omega)
  have gx := (wayBad_in (hall _ _ hx)).1
  have gy := (wayBad_in (hall _ _ hy)).1
  rw [show w64 ((k : Int) - 1) = ((k - 1 : Nat) : Int) by rw [w64_id] <;> omega, show w64 ((k : Int) + 1) = ((k + 1 : Nat) : Int) by rw [w64_id] <;> omega]
  refine idx_nat hx (idx_nat hy (S_axis hg.sz gy gx (E_stepC _ _ _ _ ?_)))
  have hsc := stepC_le hc w[k].Layer last (axC (w[k - 1]'(by omega)) w[k])
  by_cases hb : 0 ≤ n ∧ n ≤ 3000 * k
  · rw [w64_id (n := n + _) (by omega) (by omega)]
    exact hX _ _ hk hx hy gx gy hb.1 hb.2
  · exact absurd hn hb
theorem S_ref_costOf {g : Grid} (hg : GOk g) {c : Costs} (hc : COk c) {w : List Cell} (hw : wayF g w = 0) {Q : Int → Prop} (h : Q (costW c w)) : M_ref7_costOf c w Q := by
  obtain ⟨hl, hne, hall⟩ := cells_of_way hw
  refine cost_loop hg hc hw (fun X n last k hX hQ hk hkl hn => ?_) h
  show M_ref7_costOf_L1 c w Q (fun n4 n5 n6 => X (n4, n5, n6)) n last k
  unfold M_ref7_costOf_L1
  refine cnd_of (fun e => ?_) (fun e => hQ (by simp at e; omega))
  have hlt : k < w.length := by simp at e; omega
  have hx : w[k]? = some w[k] := List.getElem?_eq_getElem hlt
  have hy : w[k - 1]? = some (w[k - 1]'(by omega)) := List.getElem?_eq_getElem (by omega)
  have gx := (wayBad_in (hall _ _ hx)).1
  have gy := (wayBad_in (hall _ _ hy)).1
  rw [show w64 ((k : Int) - 1) = ((k - 1 : Nat) : Int) by rw [w64_id] <;> omega, show w64 ((k : Int) + 1) = ((k + 1 : Nat) : Int) by rw [w64_id] <;> omega]
  refine idx_nat hy (idx_nat hx (S_along hg.sz gy gx (S_ref_stepCost ?_)))
  have hsc := stepC_le hc w[k].Layer last (axC (w[k - 1]'(by omega)) w[k])
  rw [w64_id (n := n + _) (by omega) (by omega)]
  have hgo := hX _ _ hk hx hy gx gy hn.1 hn.2
  rw [stepC_last] at hgo
  refine cnd_of (fun e2 => ?_) (fun e2 => ?_)
  · rw [if_neg (by simpa using e2)] at hgo; exact hgo
  · rw [if_pos (by simpa using e2)] at hgo; exact hgo
def costOfF (g : Grid) (c : Costs) (w : List Cell) : Int := if bothF g c ≠ 0 then bothF g c else wayF g w
theorem S_CostOf {g : Grid} {c : Costs} {w : List Cell} {Q : Int → Int → Prop} (h : Q (if costOfF g c w ≠ 0 then 0 else costW c w) (costOfF g c w)) : M_route_CostOf g c w Q := by
  unfold M_route_CostOf
  refine S_checkBoth (cnd_of (fun e => ?_) (fun e => ?_))
  · have e' : bothF g c ≠ 0 := by simpa using e
    have ef : costOfF g c w = bothF g c := by unfold costOfF; rw [if_pos e']
    rw [ef, if_pos e'] at h; exact h
  · have e' : bothF g c = 0 := by simpa using e
    obtain ⟨hg, hc⟩ := bothF_zero e'
    have ef : costOfF g c w = wayF g w := by unfold costOfF; rw [if_neg (by simp [e'])]
    rw [ef] at h
    refine S_blocked hg (S_checkWay hg (cnd_of (fun e2 => ?_) (fun e2 => ?_)))
    · rw [if_pos (by simpa using e2)] at h; exact h
    · have e3 : wayF g w = 0 := by simpa using e2
      rw [e3, if_neg (by decide)] at h
      exact S_costOf hg hc e3 h
theorem S_ref_CostOf {g : Grid} {c : Costs} {w : List Cell} {Q : Int → Int → Prop} (h : Q (if costOfF g c w ≠ 0 then 0 else costW c w) (costOfF g c w)) : M_ref7_CostOf g c w Q := by
  unfold M_ref7_CostOf
  refine S_askGrid (cnd_of (fun e => ?_) (fun e => ?_))
  · have e' : bothF g c ≠ 0 := by simpa using e
    have ef : costOfF g c w = bothF g c := by unfold costOfF; rw [if_pos e']
    rw [ef, if_pos e'] at h; exact h
  · have e' : bothF g c = 0 := by simpa using e
    obtain ⟨hg, hc⟩ := bothF_zero e'
    have ef : costOfF g c w = wayF g w := by unfold costOfF; rw [if_neg (by simp [e'])]
    rw [ef] at h
    refine S_ref_checkWay hg (cnd_of (fun e2 => ?_) (fun e2 => ?_))
    · rw [if_pos (by simpa using e2)] at h; exact h
    · have e3 : wayF g w = 0 := by simpa using e2
      rw [e3, if_neg (by decide)] at h
      exact S_ref_costOf hg hc e3 h
/-! ### finders -/
def findF (g : Grid) (c : Costs) (l : List Cell) : Int :=
  if bothF g c ≠ 0 then bothF g c else if l.any (fun x => !inG g x) = true then 1 else if l.any (fun x => decide (x ∈ g.Blocked)) = true then 14 else 0
theorem S_find {g : Grid} {c : Costs} {l : List Cell} {Q : Option (List Bool) → Int → Prop} (h1 : findF g c l ≠ 0 → Q none (findF g c l)) (h0 : findF g c l = 0 → Q (some (noOf g)) 0) : M_find g c l Q := by
  unfold M_find
  unfold findF at h1 h0
  refine S_checkBoth (cnd_of (fun e => ?_) (fun e => ?_))
  · have e' : bothF g c ≠ 0 := by simpa using e
    rw [if_pos e'] at h1; exact h1 e'
  · have e' : bothF g c = 0 := by simpa using e
    obtain ⟨hg, hc⟩ := bothF_zero e'
    rw [if_neg (by simp [e'])] at h1 h0
    refine S_blocked hg ?_
    unfold M_containsFunc_find1 M_indexFunc_find1
    refine forIn_any (A := Q none 1) (fun x => !inG g x) (fun k x next hn => ?_) l 0 ?_
    · unfold M_indexFunc_find1_L1 M_find1
      refine S_isCell hg.sz ?_
      refine cnd_of (fun e2 => ?_) (fun e2 => ?_)
      · rw [if_pos (by simpa using e2)] at hn
        rw [decide_eq_true (by omega)]; simpa using hn
      · rw [if_neg (by simp [e2])] at hn; exact hn
    · split
      · rename_i e2; rw [if_pos e2] at h1; exact h1 (by decide)
      · rename_i e2
        rw [if_neg e2] at h1 h0
        have hin : ∀ x ∈ l, inG g x = true := fun x hx => by
          cases hq : inG g x with
          | true => rfl
          | false => exact absurd (List.any_eq_true.2 ⟨x, hx, by simp [hq]⟩) e2
        show cnd (decide ((-1 : Int) ≥ 0)) _ _
        rw [show decide ((-1 : Int) ≥ 0) = false by decide]
        simp only [cnd_false]
        show M_containsFunc_find2 _ _ _ _
        unfold M_containsFunc_find2 M_indexFunc_find2
        -- only cells of the grid are asked for
        refine forIn_checkP (t := l) (Q := fun n => Q none n) (D := cnd (decide ((-1 : Int) ≥ 0)) (Q none 14) (Q (some (noOf g)) 0)) (body := fun k x s next => M_indexFunc_find2_L1 ⟨g, c, noOf g⟩ g (fun y1 => cnd (decide (y1 ≥ 0)) (Q none 14) (Q (some (noOf g)) 0)) k x (next ())) (fun k x => if x ∈ g.Blocked then 14 else 0) (fun k x next hx hI hne hz => ?_) ?_
        · unfold M_indexFunc_find2_L1 M_find2
          have hxg := hin x (List.mem_of_getElem? hx)
          refine S_number hg.sz hxg ?_
          refine idx_nat (noOf_cell hg hxg) ?_
          refine cnd_of (fun e3 => ?_) (fun e3 => ?_)
          · rw [if_pos (by simpa using e3)] at hne
            rw [decide_eq_true (by omega)]; simp only [cnd_true]; exact hne (by decide)
          · rw [if_neg (by simpa using e3)] at hz; exact hz rfl
        · have hfb : ∀ (l : List Cell) (k : Nat), firstBad (fun k x => if x ∈ g.Blocked then (14 : Int) else 0) l k = if l.any (fun x => decide (x ∈ g.Blocked)) = true then 14 else 0 := by
            intro l
            induction l with
            | nil => intro k; rfl
            | cons x r ih =>
              intro k
              unfold firstBad
              by_cases hb : x ∈ g.Blocked
              · rw [if_pos hb, if_pos (by decide), if_pos (by simp [hb])]
              · rw [if_neg hb, if_neg (by simp), ih]; simp [hb]
          rw [hfb]
          by_cases hb : l.any (fun x => decide (x ∈ g.Blocked)) = true
          · rw [if_pos hb] at h1 ⊢; rw [if_neg (by decide)]; exact h1 (by decide)
          · rw [if_neg hb] at h0 ⊢; rw [if_pos rfl]; simpa using h0 rfl
theorem findF_zero {g : Grid} {c : Costs} {l : List Cell} (h : findF g c l = 0) : GOk g ∧ COk c ∧ ∀ x ∈ l, inG g x = true ∧ x ∉ g.Blocked := by
  unfold findF at h
  split at h
  · rename_i e; exact absurd h e
  · rename_i e
    obtain ⟨hg, hc⟩ := bothF_zero (show bothF g c = 0 by simpa using e)
    split at h
    · exact absurd h (by decide)
    · rename_i e2
      split at h
      · exact absurd h (by decide)
      · rename_i e3
        refine ⟨hg, hc, fun x hx => ⟨?_, fun hb => e3 (List.any_eq_true.2 ⟨x, hx, by simpa using hb⟩)⟩⟩
        cases hq : inG g x with
        | true => rfl
        | false => exact absurd (List.any_eq_true.2 ⟨x, hx, by simp [hq]⟩) e2
/-- the words of a right grid with right costs -/
def grC (g : Grid) (c : Costs) : Gr := grOf ⟨g, c, noOf g⟩
theorem grC_N (g : Grid) (c : Costs) : (grC g c).N = (grG g).N := rfl
theorem goodF_of {g : Grid} {c : Costs} (hg : GOk g) (hc : COk c) : GoodF ⟨g, c, noOf g⟩ :=
  ⟨hg.sz.W, hg.sz.H, hg.sz.L, hg.N, by unfold noOf; simp; rfl, ⟨hc.step, hc.via, hc.turn, hc.agn⟩⟩
def leastQ (d : Int) : Int × Bool := if d < 0 then (0, false) else (d / kB, true)
theorem Wk.le {E : Nat → List (Nat × Int)} {S : List Nat} {N : Nat} {K : Int} (hE : GoodE E N K) (hS : ∀ s ∈ S, s < N) {s : Nat} {c : Int} {n : Nat} (h : Wk E S s c n) : s < N ∧ 0 ≤ c ∧ c ≤ n * K := by
  induction h with
  | start hs => exact ⟨hS _ hs, Int.le_refl _, by simp⟩
  | step w he ih =>
    obtain ⟨h1, h2, h3⟩ := ih
    obtain ⟨h4, h5, h6⟩ := (hE _ h1).2 _ he
    simp only at h4 h5 h6
    exact ⟨h4, by omega, by rw [show ∀ n : Nat, ((n + 1 : Nat) : Int) = (n : Int) + 1 from fun n => by omega, Int.add_mul]; omega⟩
theorem least_le {g : Grid} {c : Costs} (hg : GOk g) (hc : COk c) {back : Bool} {S : List Nat} (hS : ∀ s ∈ S, s < 3 * (grG g).N) {out : List Int} (h : Least ((grC g c).E back) S (3 * (grG g).N) out) {s : Nat} {d : Int} (hd : out[s]? = some d) (h0 : 0 ≤ d) :
    ∃ k n, Wk ((grC g c).E back) S s k n ∧ d = k * kB + n ∧ 0 ≤ k ∧ n < 120000 ∧ k ≤ 360000000 := by
  obtain ⟨k, n, w, e, p, b⟩ := h.way s d hd h0
  have hN := hg.N
  have hle := Wk.le ((goodF_of hg hc).ok.good back) hS w
  exact ⟨k, n, w, e, p, by omega, by have := hle.2.2; omega⟩
theorem S_Least {g : Grid} {c : Costs} {a b : Cell} {Q : Int → Bool → Int → Prop} (h1 : findF g c [a, b] ≠ 0 → Q 0 false (findF g c [a, b]))
    (h0 : findF g c [a, b] = 0 → ∀ out d, Least ((grC g c).E true) [3 * numN g b, 3 * numN g b + 1, 3 * numN g b + 2] (3 * (grG g).N) out → out[3 * numN g a]? = some d → Q (leastQ d).1 (leastQ d).2 0) : M_route_Least g c a b Q := by
  unfold M_route_Least
  refine S_find (fun e => ⟨fun _ => ?_, fun x hx => by cases hx⟩) (fun e => ⟨fun hx => (by cases hx), fun x hx => ?_⟩)
  · refine cnd_of (fun _ => h1 e) (fun e2 => absurd (by simpa using e2) e)
  · injection hx with hx; subst hx
    obtain ⟨hg, hc, hl⟩ := findF_zero e
    have ha := hl a (by simp)
    have hb := hl b (by simp)
    have hna := numN_lt hg.sz ha.1
    have hnb := numN_lt hg.sz hb.1
    have hN := hg.N
    show cnd false _ _
    simp only [cnd_false]
    refine S_number hg.sz hb.1 ?_
    refine S_to (goodF_of hg hc) hnb (fun out hout => ?_)
    refine S_number hg.sz ha.1 ?_
    rw [show w64 (3 * (numN g a : Int)) = ((3 * numN g a : Nat) : Int) by rw [w64_id] <;> omega]
    have hd : out[3 * numN g a]? = some (out[3 * numN g a]'(by have := hout.len; rw [this]; show _ < 3 * (grG g).N; omega)) := List.getElem?_eq_getElem _
    refine idx_nat hd ?_
    have := h0 e out _ hout hd
    generalize out[3 * numN g a]'_ = d at this hd ⊢
    unfold leastQ at this
    refine cnd_of (fun e2 => ?_) (fun e2 => ?_)
    · rw [if_pos (by simpa using e2)] at this; exact this
    · have e3 : ¬ d < 0 := by simpa using e2
      rw [if_neg e3] at this
      obtain ⟨k, n, _, hdk, hk0, hn, hk⟩ := least_le hg hc (fun s hs => by simp at hs; omega) hout hd (by omega)
      have hkB : kB = 1048576 := rfl
      rw [show w64 (d.tdiv 1048576) = d / kB by rw [Int.tdiv_eq_ediv_of_nonneg (by omega), hkB]; rw [hkB] at hdk; exact w64_id (by omega) (by omega)]
      exact this
end Go.Proofs.Ytihjaehkdgdenaa

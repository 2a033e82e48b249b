/- Chapter 7: grids, costs, ways: what the checks answer, in the program and in the reference. -/
import Derived.Test.YtihjaehkdgdenaaRtF
import Derived.Test.YtihjaehkdgdenaaFind
namespace Go.Proofs.Ytihjaehkdgdenaa
open Go Go.RowKit
set_option linter.unusedVariables false
set_option linter.unusedSimpArgs false

/-! ### grids -/
def sizesOk (g : Grid) : Bool := within g.W 1 200 && within g.H 1 200 && within g.Layers 1 8
def inG (g : Grid) (c : Cell) : Bool := within c.X 0 (g.W - 1) && within c.Y 0 (g.H - 1) && within c.Layer 0 (g.Layers - 1)
def numI (g : Grid) (c : Cell) : Int := (c.Layer * g.H + c.Y) * g.W + c.X
def gridBad (g : Grid) (k : Nat) (x : Cell) : Int :=
  if inG g x = false then 1 else if 0 < k ∧ numI g x ≤ numI g (g.Blocked.getD (k - 1) default) then 8 else 0
def gridF (g : Grid) : Int :=
  if sizesOk g = false then 1 else if g.W * g.H * g.Layers > 40000 ∨ (g.Blocked.length : Int) > 40000 then 2 else firstBad (gridBad g) g.Blocked 0
def costsF (c : Costs) : Int := if (within c.Step 1 1000 && within c.Via 1 1000 && within c.Turn 0 1000 && within c.Against 0 1000) = true then 0 else 1
structure Sz (g : Grid) : Prop where
  W : 1 ≤ g.W ∧ g.W ≤ 200
  H : 1 ≤ g.H ∧ g.H ≤ 200
  L : 1 ≤ g.Layers ∧ g.Layers ≤ 8
theorem within_iff {n a b : Int} : within n a b = true ↔ a ≤ n ∧ n ≤ b := by unfold within; simp
theorem sz_iff (g : Grid) : sizesOk g = true ↔ Sz g := by
  unfold sizesOk; simp only [Bool.and_eq_true, within_iff]
  exact ⟨fun ⟨⟨a, b⟩, c⟩ => ⟨a, b, c⟩, fun h => ⟨⟨h.W, h.H⟩, h.L⟩⟩
/-- a grid's words -/
def grG (g : Grid) : Gr := ⟨g.W.toNat, g.H.toNat, g.Layers.toNat, fun _ => false, 0, 0, 0, 0⟩
def numN (g : Grid) (c : Cell) : Nat := (grG g).num c.X.toNat c.Y.toNat c.Layer.toNat
section
variable {g : Grid} {c : Cell}
theorem inG_iff : inG g c = true ↔ (0 ≤ c.X ∧ c.X < g.W) ∧ (0 ≤ c.Y ∧ c.Y < g.H) ∧ 0 ≤ c.Layer ∧ c.Layer < g.Layers := by
  unfold inG; simp only [Bool.and_eq_true, within_iff]; omega
theorem numI_eq (hs : Sz g) (hc : inG g c = true) : numI g c = (numN g c : Int) := by
  obtain ⟨hx, hy, hz⟩ := inG_iff.1 hc
  have hW := hs.W; have hH := hs.H
  unfold numI numN Gr.num grG
  simp only
  push_cast
  rw [Int.toNat_of_nonneg hx.1, Int.toNat_of_nonneg hy.1, Int.toNat_of_nonneg hz.1, Int.toNat_of_nonneg (by omega), Int.toNat_of_nonneg (by omega)]
theorem numN_lt (hs : Sz g) (hc : inG g c = true) : numN g c < (grG g).N := by
  obtain ⟨hx, hy, hz⟩ := inG_iff.1 hc
  exact (grG g).num_lt (by simp only [grG]; omega) (by simp only [grG]; omega) (by simp only [grG]; omega)
theorem numN_xyz (hs : Sz g) (hc : inG g c = true) : (grG g).X (numN g c) = c.X.toNat ∧ (grG g).Y (numN g c) = c.Y.toNat ∧ (grG g).Z (numN g c) = c.Layer.toNat := by
  obtain ⟨hx, hy, hz⟩ := inG_iff.1 hc
  have h1 : c.X.toNat < (grG g).W := by simp only [grG]; omega
  have h2 : c.Y.toNat < (grG g).H := by simp only [grG]; omega
  exact ⟨Gr.X_num _ h1, Gr.Y_num _ h1 h2, Gr.Z_num _ h1 h2⟩
theorem numN_inj (hs : Sz g) {d : Cell} (hc : inG g c = true) (hd : inG g d = true) (h : numN g c = numN g d) : c = d := by
  obtain ⟨a1, a2, a3⟩ := numN_xyz hs hc
  obtain ⟨b1, b2, b3⟩ := numN_xyz hs hd
  rw [h] at a1 a2 a3
  obtain ⟨hx, hy, hz⟩ := inG_iff.1 hc
  obtain ⟨ix, iy, iz⟩ := inG_iff.1 hd
  cases c; cases d
  simp only at *
  simp only [Cell.mk.injEq]; omega
theorem NN_le (hs : Sz g) : (grG g).N ≤ 320000 := by
  have h1 : g.W.toNat ≤ 200 := by have := hs.W; omega
  have h2 : g.H.toNat ≤ 200 := by have := hs.H; omega
  have h3 : g.Layers.toNat ≤ 8 := by have := hs.L; omega
  unfold Gr.N grG
  exact Nat.mul_le_mul (Nat.mul_le_mul h1 h2) h3
theorem NN_eq (hs : Sz g) : g.W * g.H * g.Layers = ((grG g).N : Int) := by
  have hW := hs.W; have hH := hs.H; have hL := hs.L
  unfold Gr.N grG
  push_cast
  rw [Int.toNat_of_nonneg (by omega), Int.toNat_of_nonneg (by omega), Int.toNat_of_nonneg (by omega)]
theorem S_number (hs : Sz g) (hc : inG g c = true) {Q : Int → Prop} (h : Q (numN g c : Int)) : M_route_number g c Q := by
  have hn := numN_lt hs hc
  have hN := NN_le hs
  obtain ⟨hx, hy, hz⟩ := inG_iff.1 hc
  have hW := hs.W; have hH := hs.H; have hL := hs.L
  rw [← numI_eq hs hc] at h
  have hI := numI_eq hs hc
  have h1 : 0 ≤ c.Layer * g.H ∧ c.Layer * g.H ≤ 7 * 200 := ⟨Int.mul_nonneg hz.1 (by omega), Int.mul_le_mul (by omega) hH.2 (by omega) (by omega)⟩
  have h2 : 0 ≤ (c.Layer * g.H + c.Y) * g.W ∧ (c.Layer * g.H + c.Y) * g.W ≤ 2000 * 200 := ⟨Int.mul_nonneg (by omega) (by omega), Int.mul_le_mul (by omega) hW.2 (by omega) (by omega)⟩
  unfold M_route_number
  unfold numI at h hI
  rw [w64_id (n := c.Layer * g.H) (by omega) (by omega), w64_id (n := c.Layer * g.H + c.Y) (by omega) (by omega), w64_id (n := (c.Layer * g.H + c.Y) * g.W) (by omega) (by omega), w64_id (by omega) (by omega)]
  exact h
theorem S_isCell (hs : Sz g) {Q : Bool → Prop} (h : Q (inG g c)) : M_route_isCell g c Q := by
  have hW := hs.W; have hH := hs.H; have hL := hs.L
  unfold M_route_isCell
  rw [w64_id (n := g.W - 1) (by omega) (by omega), w64_id (n := g.H - 1) (by omega) (by omega), w64_id (n := g.Layers - 1) (by omega) (by omega)]
  unfold inG at h
  refine cnd_of (fun e => cnd_of (fun e2 => ?_) (fun e2 => ?_)) (fun e => ?_) <;> simp only [e, Bool.true_and, Bool.false_and] at h <;> first | (simp only [e2, Bool.true_and, Bool.false_and] at h; exact h) | exact h
theorem S_ref_isCell (hs : Sz g) {Q : Bool → Prop} (h : Q (inG g c)) : M_ref7_isCell g c Q := S_isCell hs h
/-- the order of cells -/
def beforeC (a b : Cell) : Bool := decide (a.Layer < b.Layer ∨ (a.Layer = b.Layer ∧ (a.Y < b.Y ∨ (a.Y = b.Y ∧ a.X < b.X))))
theorem S_before {a b : Cell} {Q : Bool → Prop} (h : Q (beforeC a b)) : M_ref7_before a b Q := by
  unfold M_ref7_before
  unfold beforeC at h
  refine cnd_of (fun e => ?_) (fun e => cnd_of (fun e2 => ?_) (fun e2 => ?_)) <;> simp at e <;> try simp at e2
  · rw [show decide (a.Layer < b.Layer ∨ (a.Layer = b.Layer ∧ (a.Y < b.Y ∨ (a.Y = b.Y ∧ a.X < b.X)))) = decide (a.Layer < b.Layer) from decide_eq_decide.2 (by omega)] at h; exact h
  · rw [show decide (a.Layer < b.Layer ∨ (a.Layer = b.Layer ∧ (a.Y < b.Y ∨ (a.Y = b.Y ∧ a.X < b.X)))) = decide (a.Y < b.Y) from decide_eq_decide.2 (by omega)] at h; exact h
  · rw [show decide (a.Layer < b.Layer ∨ (a.Layer = b.Layer ∧ (a.Y < b.Y ∨ (a.Y = b.Y ∧ a.X < b.X)))) = decide (a.X < b.X) from decide_eq_decide.2 (by omega)] at h; exact h
theorem lt_xyz (G : Gr) {n m : Nat} : n < m ↔ G.Z n < G.Z m ∨ (G.Z n = G.Z m ∧ (G.Y n < G.Y m ∨ (G.Y n = G.Y m ∧ G.X n < G.X m))) := by
  have key : ∀ n m : Nat, n < m → G.Z n < G.Z m ∨ (G.Z n = G.Z m ∧ (G.Y n < G.Y m ∨ (G.Y n = G.Y m ∧ G.X n < G.X m))) := fun n m h => by
    have h1 : n / G.W ≤ m / G.W := Nat.div_le_div_right (Nat.le_of_lt h)
    have h2 : G.Z n ≤ G.Z m := Nat.div_le_div_right h1
    rcases Nat.lt_or_eq_of_le h2 with h3 | h3
    · exact .inl h3
    · refine .inr ⟨h3, ?_⟩
      have e1 := Nat.div_add_mod (n / G.W) G.H
      have e2 := Nat.div_add_mod (m / G.W) G.H
      have h4 : G.Y n ≤ G.Y m := by
        show n / G.W % G.H ≤ m / G.W % G.H
        have : n / G.W / G.H = m / G.W / G.H := h3
        rw [this] at e1; omega
      rcases Nat.lt_or_eq_of_le h4 with h5 | h5
      · exact .inl h5
      · refine .inr ⟨h5, ?_⟩
        have h6 : n / G.W = m / G.W := by
          have a1 : n / G.W / G.H = m / G.W / G.H := h3
          have a2 : n / G.W % G.H = m / G.W % G.H := h5
          rw [a1, a2] at e1; omega
        have e3 := Nat.div_add_mod n G.W
        have e4 := Nat.div_add_mod m G.W
        show n % G.W < m % G.W
        rw [h6] at e3; omega
  constructor
  · exact key n m
  · intro h
    rcases Nat.lt_trichotomy n m with h1 | h1 | h1
    · exact h1
    · subst h1; omega
    · have := key m n h1; omega
theorem before_num (hs : Sz g) {d : Cell} (hc : inG g c = true) (hd : inG g d = true) : beforeC c d = decide (numN g c < numN g d) := by
  obtain ⟨a1, a2, a3⟩ := numN_xyz hs hc
  obtain ⟨b1, b2, b3⟩ := numN_xyz hs hd
  obtain ⟨hx, hy, hz⟩ := inG_iff.1 hc
  obtain ⟨ix, iy, iz⟩ := inG_iff.1 hd
  unfold beforeC
  refine decide_eq_decide.2 ?_
  rw [lt_xyz (grG g), a1, a2, a3, b1, b2, b3]; omega
/-- how both check a grid's sizes first -/
theorem prev_idx {xs : List Cell} {k : Nat} {x : Cell} (hx : xs[k]? = some x) (hk : 0 < k) (hl : xs.length ≤ 1000000) {K : Cell → Prop} (h : K (xs.getD (k - 1) default)) : idx xs (w64 ((k : Int) - 1)) K := by
  have hlt := lt_of_get hx
  rw [w64_id (n := (k : Int) - 1) (by omega) (by omega)]
  rw [show ((k : Int) - 1) = ((k - 1 : Nat) : Int) by omega]
  have h2 : xs[k - 1]? = some (xs[k - 1]'(by omega)) := List.getElem?_eq_getElem (by omega)
  refine idx_nat h2 ?_
  rw [List.getD_eq_getElem?_getD, h2] at h
  exact h
theorem prev_get {xs : List Cell} {k : Nat} {x : Cell} (hx : xs[k]? = some x) (hk : 0 < k) : xs[k - 1]? = some (xs.getD (k - 1) default) := by
  have hlt := lt_of_get hx
  rw [List.getD_eq_getElem?_getD, List.getElem?_eq_getElem (show k - 1 < xs.length by omega)]; rfl
theorem grid_w64 (hs : Sz g) : w64 ((w64 (g.W * g.H)) * g.Layers) = g.W * g.H * g.Layers := by
  have hN := NN_le hs
  have hW := hs.W; have hH := hs.H; have hL := hs.L
  have h1 : 0 ≤ g.W * g.H ∧ g.W * g.H ≤ 200 * 200 := ⟨Int.mul_nonneg (by omega) (by omega), Int.mul_le_mul hW.2 hH.2 (by omega) (by omega)⟩
  rw [w64_id (n := g.W * g.H) (by omega) (by omega), NN_eq hs, w64_id] <;> omega
theorem S_CheckGrid {Q : Int → Prop} (h : Q (gridF g)) : M_route_CheckGrid g Q := by
  unfold M_route_CheckGrid
  unfold gridF at h
  have bad : sizesOk g = false → M_route_CheckGrid_k1 g Q true := fun e => by
    rw [if_pos e] at h; unfold M_route_CheckGrid_k1; simp only [cnd_true]; exact h
  refine cnd_of (fun e => bad ?_) (fun e => cnd_of (fun e2 => bad ?_) (fun e2 => ?_))
  · simp at e; simp [sizesOk, e]
  · simp at e2; simp [sizesOk, e2]
  · cases e3 : within g.Layers 1 8 with
    | false => exact bad (by simp [sizesOk, e3])
    | true =>
      simp at e e2
      have hs : Sz g := (sz_iff g).1 (by simp [sizesOk, e, e2, e3])
      rw [if_neg (by simp [sizesOk, e, e2, e3])] at h
      unfold M_route_CheckGrid_k1
      simp only [Bool.not_true, cnd_false]
      rw [grid_w64 hs]
      have large : g.W * g.H * g.Layers > 40000 ∨ (g.Blocked.length : Int) > 40000 → M_route_CheckGrid_k2 g Q true := fun hl => by
        rw [if_pos hl] at h; unfold M_route_CheckGrid_k2; simp only [cnd_true]; exact h
      refine cnd_of (fun e4 => large (.inl (by simpa using e4))) (fun e4 => ?_)
      by_cases e5 : (g.Blocked.length : Int) > 40000
      · rw [decide_eq_true e5]; exact large (.inr e5)
      · rw [decide_eq_false e5]
        unfold M_route_CheckGrid_k2
        simp only [cnd_false]
        have e4' : ¬ g.W * g.H * g.Layers > 40000 := by simpa using e4
        rw [if_neg (fun hh => hh.elim e4' e5)] at h
        refine forIn_checkP (Q := Q) (gridBad g) (fun k x next hx hI hne h0 => ?_) ?_
        · unfold M_route_CheckGrid_L1
          refine S_isCell hs ?_
          unfold gridBad at hne h0
          refine cnd_of (fun e6 => ?_) (fun e6 => ?_)
          · have e6' : inG g x = false := by simpa using e6
            rw [if_pos e6'] at hne; exact hne (by decide)
          · have e6' : inG g x = true := by simpa using e6
            rw [if_neg (by simp [e6'])] at hne h0
            refine cnd_of (fun e7 => ?_) (fun e7 => ?_)
            · have hk : 0 < k := by simpa using e7
              refine prev_idx hx hk (by omega) ?_
              have hp := hI (k - 1) _ (by omega) (prev_get hx hk)
              have hpg : inG g (g.Blocked.getD (k - 1) default) = true := by
                cases hq : inG g (g.Blocked.getD (k - 1) default) with
                | true => rfl
                | false => unfold gridBad at hp; rw [if_pos hq] at hp; exact absurd hp (by decide)
              refine S_number hs e6' (S_number hs hpg ?_)
              rw [← numI_eq hs e6', ← numI_eq hs hpg]
              unfold M_route_CheckGrid_k4
              refine cnd_of (fun e8 => ?_) (fun e8 => ?_)
              · rw [if_pos ⟨hk, by simpa using e8⟩] at hne; exact hne (by decide)
              · rw [if_neg (fun hh => of_decide_eq_false e8 hh.2)] at h0; exact h0 rfl
            · have hk : ¬ 0 < k := by simpa using e7
              unfold M_route_CheckGrid_k4
              simp only [cnd_false]
              rw [if_neg (fun hh => hk hh.1)] at h0; exact h0 rfl
        · split
          · rename_i e9; rw [e9] at h; exact h
          · exact h
theorem S_ref_CheckGrid {Q : Int → Prop} (h : Q (gridF g)) : M_ref7_CheckGrid g Q := by
  unfold M_ref7_CheckGrid
  unfold gridF at h
  have bad : sizesOk g = false → M_ref7_CheckGrid_k1 g Q true := fun e => by
    rw [if_pos e] at h; unfold M_ref7_CheckGrid_k1; simp only [cnd_true]; exact h
  refine cnd_of (fun e => bad ?_) (fun e => cnd_of (fun e2 => bad ?_) (fun e2 => ?_))
  · simp at e; simp [sizesOk, e]
  · simp at e2; simp [sizesOk, e2]
  · cases e3 : within g.Layers 1 8 with
    | false => exact bad (by simp [sizesOk, e3])
    | true =>
      simp at e e2
      have hs : Sz g := (sz_iff g).1 (by simp [sizesOk, e, e2, e3])
      rw [if_neg (by simp [sizesOk, e, e2, e3])] at h
      unfold M_ref7_CheckGrid_k1
      simp only [Bool.not_true, cnd_false]
      rw [grid_w64 hs]
      have large : g.W * g.H * g.Layers > 40000 ∨ (g.Blocked.length : Int) > 40000 → M_ref7_CheckGrid_k2 g Q true := fun hl => by
        rw [if_pos hl] at h; unfold M_ref7_CheckGrid_k2; simp only [cnd_true]; exact h
      refine cnd_of (fun e4 => large (.inl (by simpa using e4))) (fun e4 => ?_)
      by_cases e5 : (g.Blocked.length : Int) > 40000
      · rw [decide_eq_true e5]; exact large (.inr e5)
      · rw [decide_eq_false e5]
        unfold M_ref7_CheckGrid_k2
        simp only [cnd_false]
        have e4' : ¬ g.W * g.H * g.Layers > 40000 := by simpa using e4
        rw [if_neg (fun hh => hh.elim e4' e5)] at h
        refine forIn_checkP (Q := Q) (gridBad g) (fun k x next hx hI hne h0 => ?_) ?_
        · unfold M_ref7_CheckGrid_L1
          refine S_ref_isCell hs ?_
          unfold gridBad at hne h0
          refine cnd_of (fun e6 => ?_) (fun e6 => ?_)
          · have e6' : inG g x = false := by simpa using e6
            rw [if_pos e6'] at hne; exact hne (by decide)
          · have e6' : inG g x = true := by simpa using e6
            rw [if_neg (by simp [e6'])] at hne h0
            refine cnd_of (fun e7 => ?_) (fun e7 => ?_)
            · have hk : 0 < k := by simpa using e7
              refine prev_idx hx hk (by omega) ?_
              have hp := hI (k - 1) _ (by omega) (prev_get hx hk)
              have hpg : inG g (g.Blocked.getD (k - 1) default) = true := by
                cases hq : inG g (g.Blocked.getD (k - 1) default) with
                | true => rfl
                | false => unfold gridBad at hp; rw [if_pos hq] at hp; exact absurd hp (by decide)
              rw [numI_eq hs e6', numI_eq hs hpg] at hne h0
              refine S_before ?_
              rw [before_num hs hpg e6']
              unfold M_ref7_CheckGrid_k4
              refine cnd_of (fun e8 => ?_) (fun e8 => ?_)
              · rw [if_pos ⟨hk, by
                  rcases Nat.lt_or_ge (numN g (g.Blocked.getD (k - 1) default)) (numN g x) with h9 | h9
                  · rw [decide_eq_true h9] at e8; cases e8
                  · omega⟩] at hne
                exact hne (by decide)
              · rw [if_neg (fun hh => by
                  rcases Nat.lt_or_ge (numN g (g.Blocked.getD (k - 1) default)) (numN g x) with h9 | h9
                  · omega
                  · rw [decide_eq_false (Nat.not_lt.2 h9)] at e8; cases e8)] at h0
                exact h0 rfl
            · have hk : ¬ 0 < k := by simpa using e7
              unfold M_ref7_CheckGrid_k4
              simp only [cnd_false]
              rw [if_neg (fun hh => hk hh.1)] at h0; exact h0 rfl
        · split
          · rename_i e9; rw [e9] at h; exact h
          · exact h
end
theorem S_CheckCosts {c : Costs} {Q : Int → Prop} (h : Q (costsF c)) : M_route_CheckCosts c Q := by
  unfold M_route_CheckCosts M_route_CheckCosts_k1
  unfold costsF at h
  cases e1 : within c.Step 1 1000 <;> cases e2 : within c.Via 1 1000 <;> cases e3 : within c.Turn 0 1000 <;> cases e4 : within c.Against 0 1000 <;> simp only [e1, e2, e3, e4] at h <;> simpa using h
theorem S_ref_CheckCosts {c : Costs} {Q : Int → Prop} (h : Q (costsF c)) : M_ref7_CheckCosts c Q := S_CheckCosts h
def bothF (g : Grid) (c : Costs) : Int := if gridF g ≠ 0 then gridF g else costsF c
theorem S_checkBoth {g : Grid} {c : Costs} {Q : Int → Prop} (h : Q (bothF g c)) : M_route_checkBoth g c Q := by
  unfold M_route_checkBoth
  unfold bothF at h
  refine S_CheckGrid (cnd_of (fun e => ?_) (fun e => S_CheckCosts ?_))
  · rw [if_pos (by simpa using e)] at h; exact h
  · rw [if_neg (by simpa using e)] at h; exact h
theorem S_askGrid {g : Grid} {c : Costs} {Q : Int → Prop} (h : Q (bothF g c)) : M_ref7_askGrid g c Q := by
  unfold M_ref7_askGrid
  unfold bothF at h
  refine S_ref_CheckGrid (cnd_of (fun e => ?_) (fun e => S_ref_CheckCosts ?_))
  · rw [if_pos (by simpa using e)] at h; exact h
  · rw [if_neg (by simpa using e)] at h; exact h
/-- what a right grid is -/
structure GOk (g : Grid) : Prop where
  sz : Sz g
  N : (grG g).N ≤ 40000
  len : g.Blocked.length ≤ 40000
  blk : ∀ c ∈ g.Blocked, inG g c = true
theorem gridF_zero {g : Grid} (h : gridF g = 0) : GOk g := by
  unfold gridF at h
  split at h
  · exact absurd h (by decide)
  · rename_i e1
    have hs : Sz g := (sz_iff g).1 (by simpa using e1)
    split at h
    · exact absurd h (by decide)
    · rename_i e2
      have hN := NN_eq hs
      refine ⟨hs, by omega, by omega, fun c hc => ?_⟩
      obtain ⟨i, hi⟩ := List.getElem?_of_mem hc
      have := firstBad_zero h i c hi
      rw [Nat.zero_add] at this
      unfold gridBad at this
      cases hq : inG g c with
      | true => rfl
      | false => rw [if_pos hq] at this; exact absurd this (by decide)
structure COk (c : Costs) : Prop where
  step : 1 ≤ c.Step ∧ c.Step ≤ 1000
  via : 1 ≤ c.Via ∧ c.Via ≤ 1000
  turn : 0 ≤ c.Turn ∧ c.Turn ≤ 1000
  agn : 0 ≤ c.Against ∧ c.Against ≤ 1000
theorem costsF_zero {c : Costs} (h : costsF c = 0) : COk c := by
  unfold costsF at h
  split at h
  · rename_i e; simp only [Bool.and_eq_true, within_iff] at e; exact ⟨e.1.1.1, e.1.1.2, e.1.2, e.2⟩
  · exact absurd h (by decide)
theorem bothF_zero {g : Grid} {c : Costs} (h : bothF g c = 0) : GOk g ∧ COk c := by
  unfold bothF at h
  split at h
  · rename_i e; exact absurd h e
  · rename_i e; exact ⟨gridF_zero (by simpa using e), costsF_zero h⟩
/-- which cells are blocked, by number -/
def noOf (g : Grid) : List Bool := (List.range (grG g).N).map (fun n => g.Blocked.any (fun c => decide (numN g c = n)))
theorem noOf_get {g : Grid} {n : Nat} (h : n < (grG g).N) : (noOf g)[n]? = some (g.Blocked.any (fun c => decide (numN g c = n))) := by
  unfold noOf; rw [List.getElem?_map, List.getElem?_range h]; rfl
theorem noOf_cell {g : Grid} (hg : GOk g) {c : Cell} (hc : inG g c = true) : (noOf g)[numN g c]? = some (decide (c ∈ g.Blocked)) := by
  rw [noOf_get (numN_lt hg.sz hc)]
  congr 1
  rw [Bool.eq_iff_iff]
  simp only [List.any_eq_true, decide_eq_true_eq]
  exact ⟨fun ⟨d, hd, e⟩ => numN_inj hg.sz (hg.blk d hd) hc e ▸ hd, fun h => ⟨c, h, rfl⟩⟩
theorem S_blocked {g : Grid} (hg : GOk g) {Q : List Bool → Prop} (h : Q (noOf g)) : M_route_blocked g Q := by
  have hN := NN_eq hg.sz
  have hN2 := hg.N
  unfold M_route_blocked
  rw [grid_w64 hg.sz, hN]
  refine ⟨⟨by omega, by omega⟩, ?_⟩
  rw [Int.toNat_natCast]
  refine forIn0 (fun k (l : List Bool) => l.length = (grG g).N ∧ ∀ n, n < (grG g).N → l[n]? = some ((g.Blocked.take k).any (fun c => decide (numN g c = n)))) ⟨by simp, fun n hn => ?_⟩ (fun k x l hx hI next hn => ?_) (fun l hI => ?_)
  · rw [List.getElem?_replicate, if_pos hn]; simp
  · unfold M_route_blocked_L1
    have hxm : x ∈ g.Blocked := List.mem_of_getElem? hx
    have hxg := hg.blk x hxm
    have hxl := numN_lt hg.sz hxg
    refine S_number hg.sz hxg ?_
    refine idx_nat (List.getElem?_eq_getElem (by rw [hI.1]; exact hxl)) ?_
    rw [Int.toNat_natCast]
    refine hn _ ⟨by rw [List.length_set]; exact hI.1, fun n hnn => ?_⟩
    rw [List.take_add_one, hx, List.any_append, List.getElem?_set]
    simp only [Option.toList, List.any_cons, List.any_nil, Bool.or_false]
    split
    · rename_i e; rw [if_pos (by rw [hI.1]; exact hxl)]; simp [e]
    · rename_i e; rw [hI.2 n hnn]; simp [e]
  · have : l = noOf g := by
      apply List.ext_getElem?
      intro n
      rcases Nat.lt_or_ge n (grG g).N with hn | hn
      · rw [hI.2 n hn, noOf_get hn, List.take_length]
      · rw [List.getElem?_eq_none (by rw [hI.1]; exact hn), List.getElem?_eq_none (by unfold noOf; simp; exact hn)]
    subst this; exact h
end Go.Proofs.Ytihjaehkdgdenaa

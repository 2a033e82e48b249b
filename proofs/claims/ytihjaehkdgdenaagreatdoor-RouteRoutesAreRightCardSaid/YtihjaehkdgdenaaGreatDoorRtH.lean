/- Chapter texts of ours, as far as the claim needs them. -/
import Derived.Test.YtihjaehkdgdenaaGreatDoorRtE
import Derived.Test.YtihjaehkdgdenaaGreatDoorFind
namespace Go.Proofs.YtihjaehkdgdenaaGreatDoor
open Go Go.RowKit
set_option linter.unusedVariables false
set_option linter.unusedSectionVars false
set_option linter.unusedSimpArgs false
def sizesOk (g : Grid) : Bool := within g.W 1 200 && within g.H 1 200 && within g.Layers 1 8
def inG (g : Grid) (c : Cell) : Bool := within c.X 0 (g.W - 1) && within c.Y 0 (g.H - 1) && within c.Layer 0 (g.Layers - 1)
def numI (g : Grid) (c : Cell) : Int := (c.Layer * g.H + c.Y) * g.W + c.X
def gridBad (g : Grid) (k : Nat) (x : Cell) : Int :=
  if inG g x = false then 1 else if 0 < k ∧ numI g x ≤ numI g (g.Blocked.getD (k - 1) default) then 8 else 0
def gridF (g : Grid) : Int :=
  if sizesOk g = false then 1 else if g.W * g.H * g.Layers > 40000 ∨ (g.Blocked.length : Int) > 40000 then 2 else firstBad (gridBad g) g.Blocked 0
def costsF (c : Costs) : Int := if (within c.Step 1 1000 && within c.Via 1 1000 && within c.Turn 0 1000 && within c.Against 0 1000) = true then 0 else 1
structure Sz (g : Grid) : Prop where
  W : 1 ≤ g.W ∧ g.W ≤ 200
  H : 1 ≤ g.H ∧ g.H ≤ 200
  L : 1 ≤ g.Layers ∧ g.Layers ≤ 8
theorem within_iff {n a b : Int} : within n a b = true ↔ a ≤ n ∧ n ≤ b := by unfold within; simp
theorem sz_iff (g : Grid) : sizesOk g = true ↔ Sz g := by
  unfold sizesOk; simp only [Bool.and_eq_true, within_iff]
  exact ⟨fun ⟨⟨a, b⟩, c⟩ => ⟨a, b, c⟩, fun h => ⟨⟨h.W, h.H⟩, h.L⟩⟩
def grG (g : Grid) : Gr := ⟨g.W.toNat, g.H.toNat, g.Layers.toNat, fun _ => false, 0, 0, 0, 0⟩
def numN (g : Grid) (c : Cell) : Nat := (grG g).num c.X.toNat c.Y.toNat c.Layer.toNat
section
variable {g : Grid} {c : Cell}
theorem inG_iff : inG g c = true ↔ (0 ≤ c.X ∧ c.X < g.W) ∧ (0 ≤ c.Y ∧ c.Y < g.H) ∧ 0 ≤ c.Layer ∧ c.Layer < g.Layers := by
  unfold inG; simp only [Bool.and_eq_true, within_iff]; omega
theorem numI_eq (hs : Sz g) (hc : inG g c = true) : numI g c = (numN g c : Int) := by
  obtain ⟨hx, hy, hz⟩ := inG_iff.1 hc
  have hW := hs.W; have hH := hs.H
  unfold numI numN Gr.num grG
  simp only
  push_cast
  rw [Int.toNat_of_nonneg hx.1, Int.toNat_of_nonneg hy.1, Int.toNat_of_nonneg hz.1, Int.toNat_of_nonneg (by omega), Int.toNat_of_nonneg (by omega)]
theorem numN_lt (hs : Sz g) (hc : inG g c = true) : numN g c < (grG g).N := by
  obtain ⟨hx, hy, hz⟩ := inG_iff.1 hc
  exact (grG g).num_lt (by simp only [grG]; omega) (by simp only [grG]; omega) (by simp only [grG]; omega)
theorem numN_xyz (hs : Sz g) (hc : inG g c = true) : (grG g).X (numN g c) = c.X.toNat ∧ (grG g).Y (numN g c) = c.Y.toNat ∧ (grG g).Z (numN g c) = c.Layer.toNat := by
  obtain ⟨hx, hy, hz⟩ := inG_iff.1 hc
  have h1 : c.X.toNat < (grG g).W := by simp only [grG]; omega
  have h2 : c.Y.toNat < (grG g).H := by simp only [grG]; omega
  exact ⟨Gr.X_num _ h1, Gr.Y_num _ h1 h2, Gr.Z_num _ h1 h2⟩
theorem numN_inj (hs : Sz g) {d : Cell} (hc : inG g c = true) (hd : inG g d = true) (h : numN g c = numN g d) : c = d := by
  obtain ⟨a1, a2, a3⟩ := numN_xyz hs hc
  obtain ⟨b1, b2, b3⟩ := numN_xyz hs hd
  rw [h] at a1 a2 a3
  obtain ⟨hx, hy, hz⟩ := inG_iff.1 hc
  obtain ⟨ix, iy, iz⟩ := inG_iff.1 hd
  cases c; cases d
  simp only at *
  simp only [Cell.mk.injEq]; omega
theorem NN_le (hs : Sz g) : (grG g).N ≤ 320000 := by
  have h1 : g.W.toNat ≤ 200 := by have := hs.W; omega
  have h2 : g.H.toNat ≤ 200 := by have := hs.H; omega
  have h3 : g.Layers.toNat ≤ 8 := by have := hs.L; omega
  unfold Gr.N grG
  exact Nat.mul_le_mul (Nat.mul_le_mul h1 h2) h3
theorem NN_eq (hs : Sz g) : g.W * g.H * g.Layers = ((grG g).N : Int) := by
  have hW := hs.W; have hH := hs.H; have hL := hs.L
  unfold Gr.N grG
  push_cast
  rw [Int.toNat_of_nonneg (by omega), Int.toNat_of_nonneg (by omega), Int.toNat_of_nonneg (by omega)]
theorem S_number (hs : Sz g) (hc : inG g c = true) {Q : Int → Prop} (h : Q (numN g c : Int)) : M_route_number g c Q := by
  have hn := numN_lt hs hc
  have hN := NN_le hs
  obtain ⟨hx, hy, hz⟩ := inG_iff.1 hc
  have hW := hs.W; have hH := hs.H; have hL := hs.L
  rw [← numI_eq hs hc] at h
  have hI := numI_eq hs hc
  have h1 : 0 ≤ c.Layer * g.H ∧ c.Layer * g.H ≤ 7 * 200 := ⟨Int.mul_nonneg hz.1 (by omega), Int.mul_le_mul (by omega) hH.2 (by omega) (by omega)⟩
  have h2 : 0 ≤ (c.Layer * g.H + c.Y) * g.W ∧ (c.Layer * g.H + c.Y) * g.W ≤ 2000 * 200 := ⟨Int.mul_nonneg (by omega) (by omega), Int.mul_le_mul (by omega) hW.2 (by omega) (by omega)⟩
  unfold M_route_number
  unfold numI at h hI
  rw [w64_id (n := c.Layer * g.H) (by omega) (by omega), w64_id (n := c.Layer * g.H + c.Y) (by omega) (by omega), w64_id (n := (c.Layer * g.H + c.Y) * g.W) (by omega) (by omega), w64_id (by omega) (by omega)]
  exact h
theorem S_isCell (hs : Sz g) {Q : Bool → Prop} (h : Q (inG g c)) : M_route_isCell g c Q := by
  have hW := hs.W; have hH := hs.H; have hL := hs.L
  unfold M_route_isCell
  rw [w64_id (n := g.W - 1) (by omega) (by omega), w64_id (n := g.H - 1) (by omega) (by omega), w64_id (n := g.Layers - 1) (by omega) (by omega)]
  unfold inG at h
  refine cnd_of (fun e => cnd_of (fun e2 => ?_) (fun e2 => ?_)) (fun e => ?_) <;> simp only [e, Bool.true_and, Bool.false_and] at h <;> first | (simp only [e2, Bool.true_and, Bool.false_and] at h; exact h) | exact h
theorem prev_idx {xs : List Cell} {k : Nat} {x : Cell} (hx : xs[k]? = some x) (hk : 0 < k) (hl : xs.length ≤ 1000000) {K : Cell → Prop} (h : K (xs.getD (k - 1) default)) : idx xs (w64 ((k : Int) - 1)) K := by
  have hlt := lt_of_get hx
  rw [w64_id (n := (k : Int) - 1) (by omega) (by omega)]
  rw [show ((k : Int) - 1) = ((k - 1 : Nat) : Int) by omega]
  have h2 : xs[k - 1]? = some (xs[k - 1]'(by omega)) := List.getElem?_eq_getElem (by omega)
  refine idx_nat h2 ?_
  rw [List.getD_eq_getElem?_getD, h2] at h
  exact h
theorem prev_get {xs : List Cell} {k : Nat} {x : Cell} (hx : xs[k]? = some x) (hk : 0 < k) : xs[k - 1]? = some (xs.getD (k - 1) default) := by
  have hlt := lt_of_get hx
  rw [List.getD_eq_getElem?_getD, List.getElem?_eq_getElem (show k - 1 < xs.length by omega)]; rfl
theorem grid_w64 (hs : Sz g) : w64 ((w64 (g.W * g.H)) * g.Layers) = g.W * g.H * g.Layers := by
  have hN := NN_le hs
  have hW := hs.W; have hH := hs.H; have hL := hs.L
  have h1 : 0 ≤ g.W * g.H ∧ g.W * g.H ≤ 200 * 200 := ⟨Int.mul_nonneg (by omega) (by omega), Int.mul_le_mul hW.2 hH.2 (by omega) (by omega)⟩
  rw [w64_id (n := g.W * g.H) (by omega) (by omega), NN_eq hs, w64_id] <;> omega
theorem S_CheckGrid {Q : Int → Prop} (h : Q (gridF g)) : M_route_CheckGrid g Q := by
  unfold M_route_CheckGrid
  unfold gridF at h
  have bad : sizesOk g = false → M_route_CheckGrid_k1 g Q true := fun e => by
    rw [if_pos e] at h; unfold M_route_CheckGrid_k1; simp only [cnd_true]; exact h
  refine cnd_of (fun e => bad ?_) (fun e => cnd_of (fun e2 => bad ?_) (fun e2 => ?_))
  · simp at e; simp [sizesOk, e]
  · simp at e2; simp [sizesOk, e2]
  · cases e3 : within g.Layers 1 8 with
    | false => exact bad (by simp [sizesOk, e3])
    | true =>
      simp at e e2
      have hs : Sz g := (sz_iff g).1 (by simp [sizesOk, e, e2, e3])
      rw [if_neg (by simp [sizesOk, e, e2, e3])] at h
      unfold M_route_CheckGrid_k1
      simp only [Bool.not_true, cnd_false]
      rw [grid_w64 hs]
      have large : g.W * g.H * g.Layers > 40000 ∨ (g.Blocked.length : Int) > 40000 → M_route_CheckGrid_k2 g Q true := fun hl => by
        rw [if_pos hl] at h; unfold M_route_CheckGrid_k2; simp only [cnd_true]; exact h
      refine cnd_of (fun e4 => large (.inl (by simpa using e4))) (fun e4 => ?_)
      by_cases e5 : (g.Blocked.length : Int) > 40000
      · rw [decide_eq_true e5]; exact large (.inr e5)
      · rw [decide_eq_false e5]
        unfold M_route_CheckGrid_k2
        simp only [cnd_false]
        have e4' : ¬ g.W * g.H * g.Layers > 40000 := by simpa using e4
        rw [if_neg (fun hh => hh.elim e4' e5)] at h
        refine forIn_checkP (Q := Q) (gridBad g) (fun k x next hx hI hne h0 => ?_) ?_
        · unfold M_route_CheckGrid_L1
          refine S_isCell hs ?_
          unfold gridBad at hne h0
          refine cnd_of (fun e6 => ?_) (fun e6 => ?_)
          · have e6' : inG g x = false := by simpa using e6
            rw [if_pos e6'] at hne; exact hne (by decide)
          · have e6' : inG g x = true := by simpa using e6
            rw [if_neg (by simp [e6'])] at hne h0
            refine cnd_of (fun e7 => ?_) (fun e7 => ?_)
            · have hk : 0 < k := by simpa using e7
              refine prev_idx hx hk (by omega) ?_
              have hp := hI (k - 1) _ (by omega) (prev_get hx hk)
              have hpg : inG g (g.Blocked.getD (k - 1) default) = true := by
                cases hq : inG g (g.Blocked.getD (k - 1) default) with
                | true => rfl
                | false => unfold gridBad at hp; rw [if_pos hq] at hp; exact absurd hp (by decide)
              refine S_number hs e6' (S_number hs hpg ?_)
              rw [← numI_eq hs e6', ← numI_eq hs hpg]
              unfold M_route_CheckGrid_k4
              refine cnd_of (fun e8 => ?_) (fun e8 => ?_)
              · rw [if_pos ⟨hk, by simpa using e8⟩] at hne; exact hne (by decide)
              · rw [if_neg (fun hh => of_decide_eq_false e8 hh.2)] at h0; exact h0 rfl
            · have hk : ¬ 0 < k := by simpa using e7
              unfold M_route_CheckGrid_k4
              simp only [cnd_false]
              rw [if_neg (fun hh => hk hh.1)] at h0; exact h0 rfl
        · split
          · rename_i e9; rw [e9] at h; exact h
          · exact h
end
theorem S_CheckCosts {c : Costs} {Q : Int → Prop} (h : Q (costsF c)) : M_route_CheckCosts c Q := by
  unfold M_route_CheckCosts M_route_CheckCosts_k1
  unfold costsF at h
  cases e1 : within c.Step 1 1000 <;> cases e2 : within c.Via 1 1000 <;> cases e3 : within c.Turn 0 1000 <;> cases e4 : within c.Against 0 1000 <;> simp only [e1, e2, e3, e4] at h <;> simpa using h
def bothF (g : Grid) (c : Costs) : Int := if gridF g ≠ 0 then gridF g else costsF c
theorem S_checkBoth {g : Grid} {c : Costs} {Q : Int → Prop} (h : Q (bothF g c)) : M_route_checkBoth g c Q := by
  unfold M_route_checkBoth
  unfold bothF at h
  refine S_CheckGrid (cnd_of (fun e => ?_) (fun e => S_CheckCosts ?_))
  · rw [if_pos (by simpa using e)] at h; exact h
  · rw [if_neg (by simpa using e)] at h; exact h
structure GOk (g : Grid) : Prop where
  sz : Sz g
  N : (grG g).N ≤ 40000
  len : g.Blocked.length ≤ 40000
  blk : ∀ c ∈ g.Blocked, inG g c = true
theorem gridF_zero {g : Grid} (h : gridF g = 0) : GOk g := by
  unfold gridF at h
  split at h
  · exact absurd h (by decide)
  · rename_i e1
    have hs : Sz g := (sz_iff g).1 (by simpa using e1)
    split at h
    · exact absurd h (by decide)
    · rename_i e2
      have hN := NN_eq hs
      refine ⟨hs, by omega, by omega, fun c hc => ?_⟩
      obtain ⟨i, hi⟩ := List.getElem?_of_mem hc
      have := firstBad_zero h i c hi
      rw [Nat.zero_add] at this
      unfold gridBad at this
      cases hq : inG g c with
      | true => rfl
      | false => rw [if_pos hq] at this; exact absurd this (by decide)
structure COk (c : Costs) : Prop where
  step : 1 ≤ c.Step ∧ c.Step ≤ 1000
  via : 1 ≤ c.Via ∧ c.Via ≤ 1000
  turn : 0 ≤ c.Turn ∧ c.Turn ≤ 1000
  agn : 0 ≤ c.Against ∧ c.Against ≤ 1000
theorem costsF_zero {c : Costs} (h : costsF c = 0) : COk c := by
  unfold costsF at h
  split at h
  · rename_i e; simp only [Bool.and_eq_true, within_iff] at e; exact ⟨e.1.1.1, e.1.1.2, e.1.2, e.2⟩
  · exact absurd h (by decide)
theorem bothF_zero {g : Grid} {c : Costs} (h : bothF g c = 0) : GOk g ∧ COk c := by
  unfold bothF at h
  split at h
  · rename_i e; exact absurd h e
  · rename_i e; exact ⟨gridF_zero (by simpa using e), costsF_zero h⟩
def noOf (g : Grid) : List Bool := (List.range (grG g).N).map (fun n => g.Blocked.any (fun c => decide (numN g c = n)))
theorem noOf_get {g : Grid} {n : Nat} (h : n < (grG g).N) : (noOf g)[n]? = some (g.Blocked.any (fun c => decide (numN g c = n))) := by
  unfold noOf; rw [List.getElem?_map, List.getElem?_range h]; rfl
theorem noOf_cell {g : Grid} (hg : GOk g) {c : Cell} (hc : inG g c = true) : (noOf g)[numN g c]? = some (decide (c ∈ g.Blocked)) := by
  rw [noOf_get (numN_lt hg.sz hc)]
  congr 1
  rw [Bool.eq_iff_iff]
  simp only [List.any_eq_true, decide_eq_true_eq]
  exact ⟨fun ⟨d, hd, e⟩ => numN_inj hg.sz (hg.blk d hd) hc e ▸ hd, fun h => ⟨c, h, rfl⟩⟩
theorem S_blocked {g : Grid} (hg : GOk g) {Q : List Bool → Prop} (h : Q (noOf g)) : M_route_blocked g Q := by
  have hN := NN_eq hg.sz
  have hN2 := hg.N
  unfold M_route_blocked
  rw [grid_w64 hg.sz, hN]
  refine ⟨⟨by omega, by omega⟩, ?_⟩
  rw [Int.toNat_natCast]
  refine forIn0 (fun k (l : List Bool) => l.length = (grG g).N ∧ ∀ n, n < (grG g).N → l[n]? = some ((g.Blocked.take k).any (fun c => decide (numN g c = n)))) ⟨by simp, fun n hn => ?_⟩ (fun k x l hx hI next hn => ?_) (fun l hI => ?_)
  · rw [List.getElem?_replicate, if_pos hn]; simp
  · unfold M_route_blocked_L1
    have hxm : x ∈ g.Blocked := List.mem_of_getElem? hx
    have hxg := hg.blk x hxm
    have hxl := numN_lt hg.sz hxg
    refine S_number hg.sz hxg ?_
    refine idx_nat (List.getElem?_eq_getElem (by rw [hI.1]; exact hxl)) ?_
    rw [Int.toNat_natCast]
    refine hn _ ⟨by rw [List.length_set]; exact hI.1, fun n hnn => ?_⟩
    rw [List.take_add_one, hx, List.any_append, List.getElem?_set]
    simp only [Option.toList, List.any_cons, List.any_nil, Bool.or_false]
    split
    · rename_i e; rw [if_pos (by rw [hI.1]; exact hxl)]; simp [e]
    · rename_i e; rw [hI.2 n hnn]; simp [e]
  · have : l = noOf g := by
      apply List.ext_getElem?
      intro n
      rcases Nat.lt_or_ge n (grG g).N with hn | hn
      · rw [hI.2 n hn, noOf_get hn, List.take_length]
      · rw [List.getElem?_eq_none (by rw [hI.1]; exact hn), List.getElem?_eq_none (by unfold noOf; simp; exact hn)]
    subst this; exact h
def df (a b : Int) : Int := max (a - b) (b - a)
def axC (a b : Cell) : Int :=
  if df a.X b.X = 1 ∧ df a.Y b.Y + df a.Layer b.Layer = 0 then 1
  else if df a.Y b.Y = 1 ∧ df a.X b.X + df a.Layer b.Layer = 0 then 2
  else if df a.Layer b.Layer = 1 ∧ df a.X b.X + df a.Y b.Y = 0 then 3 else 0
section
variable {g : Grid} {a b : Cell}
theorem df_w64 {p q : Int} (hp : 0 ≤ p ∧ p ≤ 1000) (hq : 0 ≤ q ∧ q ≤ 1000) : max (w64 (p - q)) (w64 (q - p)) = df p q ∧ 0 ≤ df p q ∧ df p q ≤ 1000 := by
  rw [w64_id (n := p - q) (by omega) (by omega), w64_id (n := q - p) (by omega) (by omega)]
  unfold df; omega
theorem cnd_and {b c : Bool} {A B : Prop} (h : if b = true ∧ c = true then A else B) : cnd b (cnd c A B) (cnd false A B) := by
  cases b <;> cases c <;> simpa using h
end
theorem S_contains_cell {s : List Cell} {v : Cell} {Q : Bool → Prop} (h : Q (decide (v ∈ s))) : M_contains_cell s v Q := by
  unfold M_contains_cell M_index_cell
  refine forIn_any (A := Q true) (fun x => decide (v = x)) (fun k x next hn => ?_) s 0 ?_
  · unfold M_index_cell_L1
    refine cnd_of (fun e => ?_) (fun e => ?_)
    · rw [if_pos e] at hn; rw [decide_eq_true (by omega)]; exact hn
    · rw [if_neg (by simp [e])] at hn; exact hn
  · have : s.any (fun x => decide (v = x)) = decide (v ∈ s) := by
      rw [Bool.eq_iff_iff, List.any_eq_true, decide_eq_true_eq]
      exact ⟨fun ⟨x, hx, e⟩ => (of_decide_eq_true e) ▸ hx, fun h => ⟨v, h, decide_eq_true rfl⟩⟩
    rw [this]
    split
    · rename_i e; rw [e] at h; exact h
    · rename_i e; rw [show decide (v ∈ s) = false by simpa using e] at h; simpa using h
def findF (g : Grid) (c : Costs) (l : List Cell) : Int :=
  if bothF g c ≠ 0 then bothF g c else if l.any (fun x => !inG g x) = true then 1 else if l.any (fun x => decide (x ∈ g.Blocked)) = true then 14 else 0
theorem S_find {g : Grid} {c : Costs} {l : List Cell} {Q : Option (List Bool) → Int → Prop} (h1 : findF g c l ≠ 0 → Q none (findF g c l)) (h0 : findF g c l = 0 → Q (some (noOf g)) 0) : M_find g c l Q := by
  unfold M_find
  unfold findF at h1 h0
  refine S_checkBoth (cnd_of (fun e => ?_) (fun e => ?_))
  · have e' : bothF g c ≠ 0 := by simpa using e
    rw [if_pos e'] at h1; exact h1 e'
  · have e' : bothF g c = 0 := by simpa using e
    obtain ⟨hg, hc⟩ := bothF_zero e'
    rw [if_neg (by simp [e'])] at h1 h0
    refine S_blocked hg ?_
    unfold M_containsFunc_find1 M_indexFunc_find1
    refine forIn_any (A := Q none 1) (fun x => !inG g x) (fun k x next hn => ?_) l 0 ?_
    · unfold M_indexFunc_find1_L1 M_find1
      refine S_isCell hg.sz ?_
      refine cnd_of (fun e2 => ?_) (fun e2 => ?_)
      · rw [if_pos (by simpa using e2)] at hn
        rw [decide_eq_true (by omega)]; simpa using hn
      · rw [if_neg (by simp [e2])] at hn; exact hn
    · split
      · rename_i e2; rw [if_pos e2] at h1; exact h1 (by decide)
      · rename_i e2
        rw [if_neg e2] at h1 h0
        have hin : ∀ x ∈ l, inG g x = true := fun x hx => by
          cases hq : inG g x with
          | true => rfl
          | false => exact absurd (List.any_eq_true.2 ⟨x, hx, by simp [hq]⟩) e2
        show cnd (decide ((-1 : Int) ≥ 0)) _ _
        rw [show decide ((-1 : Int) ≥ 0) = false by decide]
        simp only [cnd_false]
        show M_containsFunc_find2 _ _ _ _
        unfold M_containsFunc_find2 M_indexFunc_find2
        -- only cells of the grid are asked for
        refine forIn_checkP (t := l) (Q := fun n => Q none n) (D := cnd (decide ((-1 : Int) ≥ 0)) (Q none 14) (Q (some (noOf g)) 0)) (body := fun k x s next => M_indexFunc_find2_L1 ⟨g, c, noOf g⟩ g (fun y1 => cnd (decide (y1 ≥ 0)) (Q none 14) (Q (some (noOf g)) 0)) k x (next ())) (fun k x => if x ∈ g.Blocked then 14 else 0) (fun k x next hx hI hne hz => ?_) ?_
        · unfold M_indexFunc_find2_L1 M_find2
          have hxg := hin x (List.mem_of_getElem? hx)
          refine S_number hg.sz hxg ?_
          refine idx_nat (noOf_cell hg hxg) ?_
          refine cnd_of (fun e3 => ?_) (fun e3 => ?_)
          · rw [if_pos (by simpa using e3)] at hne
            rw [decide_eq_true (by omega)]; simp only [cnd_true]; exact hne (by decide)
          · rw [if_neg (by simpa using e3)] at hz; exact hz rfl
        · have hfb : ∀ (l : List Cell) (k : Nat), firstBad (fun k x => if x ∈ g.Blocked then (14 : Int) else 0) l k = if l.any (fun x => decide (x ∈ g.Blocked)) = true then 14 else 0 := by
            intro l
            induction l with
            | nil => intro k; rfl
            | cons x r ih =>
              intro k
              unfold firstBad
              by_cases hb : x ∈ g.Blocked
              · rw [if_pos hb, if_pos (by decide), if_pos (by simp [hb])]
              · rw [if_neg hb, if_neg (by simp), ih]; simp [hb]
          rw [hfb]
          by_cases hb : l.any (fun x => decide (x ∈ g.Blocked)) = true
          · rw [if_pos hb] at h1 ⊢; rw [if_neg (by decide)]; exact h1 (by decide)
          · rw [if_neg hb] at h0 ⊢; rw [if_pos rfl]; simpa using h0 rfl
theorem findF_zero {g : Grid} {c : Costs} {l : List Cell} (h : findF g c l = 0) : GOk g ∧ COk c ∧ ∀ x ∈ l, inG g x = true ∧ x ∉ g.Blocked := by
  unfold findF at h
  split at h
  · rename_i e; exact absurd h e
  · rename_i e
    obtain ⟨hg, hc⟩ := bothF_zero (show bothF g c = 0 by simpa using e)
    split at h
    · exact absurd h (by decide)
    · rename_i e2
      split at h
      · exact absurd h (by decide)
      · rename_i e3
        refine ⟨hg, hc, fun x hx => ⟨?_, fun hb => e3 (List.any_eq_true.2 ⟨x, hx, by simpa using hb⟩)⟩⟩
        cases hq : inG g x with
        | true => rfl
        | false => exact absurd (List.any_eq_true.2 ⟨x, hx, by simp [hq]⟩) e2
def grC (g : Grid) (c : Costs) : Gr := grOf ⟨g, c, noOf g⟩
theorem goodF_of {g : Grid} {c : Costs} (hg : GOk g) (hc : COk c) : GoodF ⟨g, c, noOf g⟩ :=
  ⟨hg.sz.W, hg.sz.H, hg.sz.L, hg.N, by unfold noOf; simp; rfl, ⟨hc.step, hc.via, hc.turn, hc.agn⟩⟩
def leastQ (d : Int) : Int × Bool := if d < 0 then (0, false) else (d / kB, true)
theorem Wk.le {E : Nat → List (Nat × Int)} {S : List Nat} {N : Nat} {K : Int} (hE : GoodE E N K) (hS : ∀ s ∈ S, s < N) {s : Nat} {c : Int} {n : Nat} (h : Wk E S s c n) : s < N ∧ 0 ≤ c ∧ c ≤ n * K := by
  induction h with
  | start hs => exact ⟨hS _ hs, Int.le_refl _, by simp⟩
  | step w he ih =>
    obtain ⟨h1, h2, h3⟩ := ih
    obtain ⟨h4, h5, h6⟩ := (hE _ h1).2 _ he
    simp only at h4 h5 h6
    exact ⟨h4, by omega, by rw [show ∀ n : Nat, ((n + 1 : Nat) : Int) = (n : Int) + 1 from fun n => by omega, Int.add_mul]; omega⟩
theorem least_le {g : Grid} {c : Costs} (hg : GOk g) (hc : COk c) {back : Bool} {S : List Nat} (hS : ∀ s ∈ S, s < 3 * (grG g).N) {out : List Int} (h : Least ((grC g c).E back) S (3 * (grG g).N) out) {s : Nat} {d : Int} (hd : out[s]? = some d) (h0 : 0 ≤ d) :
    ∃ k n, Wk ((grC g c).E back) S s k n ∧ d = k * kB + n ∧ 0 ≤ k ∧ n < 120000 ∧ k ≤ 360000000 := by
  obtain ⟨k, n, w, e, p, b⟩ := h.way s d hd h0
  have hN := hg.N
  have hle := Wk.le ((goodF_of hg hc).ok.good back) hS w
  exact ⟨k, n, w, e, p, by omega, by have := hle.2.2; omega⟩
theorem S_Least {g : Grid} {c : Costs} {a b : Cell} {Q : Int → Bool → Int → Prop} (h1 : findF g c [a, b] ≠ 0 → Q 0 false (findF g c [a, b]))
    (h0 : findF g c [a, b] = 0 → ∀ out d, Least ((grC g c).E true) [3 * numN g b, 3 * numN g b + 1, 3 * numN g b + 2] (3 * (grG g).N) out → out[3 * numN g a]? = some d → Q (leastQ d).1 (leastQ d).2 0) : M_route_Least g c a b Q := by
  unfold M_route_Least
  refine S_find (fun e => ⟨fun _ => ?_, fun x hx => by cases hx⟩) (fun e => ⟨fun hx => (by cases hx), fun x hx => ?_⟩)
  · refine cnd_of (fun _ => h1 e) (fun e2 => absurd (by simpa using e2) e)
  · injection hx with hx; subst hx
    obtain ⟨hg, hc, hl⟩ := findF_zero e
    have ha := hl a (by simp)
    have hb := hl b (by simp)
    have hna := numN_lt hg.sz ha.1
    have hnb := numN_lt hg.sz hb.1
    have hN := hg.N
    show cnd false _ _
    simp only [cnd_false]
    refine S_number hg.sz hb.1 ?_
    refine S_to (goodF_of hg hc) hnb (fun out hout => ?_)
    refine S_number hg.sz ha.1 ?_
    rw [show w64 (3 * (numN g a : Int)) = ((3 * numN g a : Nat) : Int) by rw [w64_id] <;> omega]
    have hd : out[3 * numN g a]? = some (out[3 * numN g a]'(by have := hout.len; rw [this]; show _ < 3 * (grG g).N; omega)) := List.getElem?_eq_getElem _
    refine idx_nat hd ?_
    have := h0 e out _ hout hd
    generalize out[3 * numN g a]'_ = d at this hd ⊢
    unfold leastQ at this
    refine cnd_of (fun e2 => ?_) (fun e2 => ?_)
    · rw [if_pos (by simpa using e2)] at this; exact this
    · have e3 : ¬ d < 0 := by simpa using e2
      rw [if_neg e3] at this
      obtain ⟨k, n, _, hdk, hk0, hn, hk⟩ := least_le hg hc (fun s hs => by simp at hs; omega) hout hd (by omega)
      have hkB : kB = 1048576 := rfl
      rw [show w64 (d.tdiv 1048576) = d / kB by rw [Int.tdiv_eq_ediv_of_nonneg (by omega), hkB]; rw [hkB] at hdk; exact w64_id (by omega) (by omega)]
      exact this
end Go.Proofs.YtihjaehkdgdenaaGreatDoor

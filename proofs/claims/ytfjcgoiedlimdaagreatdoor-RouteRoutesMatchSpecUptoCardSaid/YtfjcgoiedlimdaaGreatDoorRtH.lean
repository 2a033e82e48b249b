/- Chapter texts of ours, as far as the claim needs them. -/
import Derived.Test.YtfjcgoiedlimdaaGreatDoorRtE
import Derived.Test.YtfjcgoiedlimdaaGreatDoorFind
namespace Go.Proofs.YtfjcgoiedlimdaaGreatDoor
open Go Go.RowKit
set_option linter.unusedVariables false
set_option linter.unusedSectionVars false
set_option linter.unusedSimpArgs false
def o7 (g : Grid) : Bool := within g.W 1 200 && within g.H 1 200 && within g.Layers 1 8
def inG (g : Grid) (c : Cell) : Bool := within c.X 0 (g.W - 1) && within c.Y 0 (g.H - 1) && within c.Layer 0 (g.Layers - 1)
def Lj (g : Grid) (c : Cell) : Int := (c.Layer * g.H + c.Y) * g.W + c.X
def wz (g : Grid) (k : Nat) (x : Cell) : Int :=
  if inG g x = false then 1 else if 0 < k ∧ Lj g x ≤ Lj g (g.Blocked.getD (k - 1) default) then 8 else 0
def uf (g : Grid) : Int :=
  if o7 g = false then 1 else if g.W * g.H * g.Layers > 40000 ∨ (g.Blocked.length : Int) > 40000 then 2 else iM (wz g) g.Blocked 0
def Ec (c : gy) : Int := if (within c.Step 1 1000 && within c.Via 1 1000 && within c.Turn 0 1000 && within c.Against 0 1000) = true then 0 else 1
structure Sz (g : Grid) : Prop where
  W : 1 ≤ g.W ∧ g.W ≤ 200
  H : 1 ≤ g.H ∧ g.H ≤ 200
  L : 1 ≤ g.Layers ∧ g.Layers ≤ 8
theorem within_iff {n a b : Int} : within n a b = true ↔ a ≤ n ∧ n ≤ b := by unfold within; simp
theorem La (g : Grid) : o7 g = true ↔ Sz g := by
  unfold o7; simp only [Bool.and_eq_true, within_iff]
  exact ⟨fun ⟨⟨a, b⟩, c⟩ => ⟨a, b, c⟩, fun h => ⟨⟨h.W, h.H⟩, h.L⟩⟩
def grG (g : Grid) : Gr := ⟨g.W.toNat, g.H.toNat, g.Layers.toNat, fun _ => false, 0, 0, 0, 0⟩
def gq (g : Grid) (c : Cell) : Nat := (grG g).num c.X.toNat c.Y.toNat c.Layer.toNat
section
variable {g : Grid} {c : Cell}
theorem tu : inG g c = true ↔ (0 ≤ c.X ∧ c.X < g.W) ∧ (0 ≤ c.Y ∧ c.Y < g.H) ∧ 0 ≤ c.Layer ∧ c.Layer < g.Layers := by
  unfold inG; simp only [Bool.and_eq_true, within_iff]; omega
theorem vZ (hs : Sz g) (hc : inG g c = true) : Lj g c = (gq g c : Int) := by
  obtain ⟨hx, hy, hz⟩ := tu.1 hc
  have hW := hs.W; have hH := hs.H
  unfold Lj gq Gr.num grG
  simp only
  push_cast
  rw [Int.toNat_of_nonneg hx.1, Int.toNat_of_nonneg hy.1, Int.toNat_of_nonneg hz.1, Int.toNat_of_nonneg (by omega), Int.toNat_of_nonneg (by omega)]
theorem oK (hs : Sz g) (hc : inG g c = true) : gq g c < (grG g).N := by
  obtain ⟨hx, hy, hz⟩ := tu.1 hc
  exact (grG g).Ol (by simp only [grG]; omega) (by simp only [grG]; omega) (by simp only [grG]; omega)
theorem Aw (hs : Sz g) (hc : inG g c = true) : (grG g).X (gq g c) = c.X.toNat ∧ (grG g).Y (gq g c) = c.Y.toNat ∧ (grG g).Z (gq g c) = c.Layer.toNat := by
  obtain ⟨hx, hy, hz⟩ := tu.1 hc
  have h1 : c.X.toNat < (grG g).W := by simp only [grG]; omega
  have h2 : c.Y.toNat < (grG g).H := by simp only [grG]; omega
  exact ⟨Gr.Pj _ h1, Gr.Py _ h1 h2, Gr.Px _ h1 h2⟩
theorem yH (hs : Sz g) {d : Cell} (hc : inG g c = true) (hd : inG g d = true) (h : gq g c = gq g d) : c = d := by
  obtain ⟨a1, a2, a3⟩ := Aw hs hc
  obtain ⟨b1, b2, b3⟩ := Aw hs hd
  rw [h] at a1 a2 a3
  obtain ⟨hx, hy, hz⟩ := tu.1 hc
  obtain ⟨ix, iy, iz⟩ := tu.1 hd
  cases c; cases d
  simp only at *
  simp only [Cell.mk.injEq]; omega
theorem N9 (hs : Sz g) : (grG g).N ≤ 320000 := by
  have h1 : g.W.toNat ≤ 200 := by have := hs.W; omega
  have h2 : g.H.toNat ≤ 200 := by have := hs.H; omega
  have h3 : g.Layers.toNat ≤ 8 := by have := hs.L; omega
  unfold Gr.N grG
  exact Nat.mul_le_mul (Nat.mul_le_mul h1 h2) h3
theorem J6 (hs : Sz g) : g.W * g.H * g.Layers = ((grG g).N : Int) := by
  have hW := hs.W; have hH := hs.H; have hL := hs.L
  unfold Gr.N grG
  push_cast
  rw [Int.toNat_of_nonneg (by omega), Int.toNat_of_nonneg (by omega), Int.toNat_of_nonneg (by omega)]
theorem qH (hs : Sz g) (hc : inG g c = true) {Q : Int → Prop} (h : Q (gq g c : Int)) : iQ g c Q := by
  have hn := oK hs hc
  have hN := N9 hs
  obtain ⟨hx, hy, hz⟩ := tu.1 hc
  have hW := hs.W; have hH := hs.H; have hL := hs.L
  rw [← vZ hs hc] at h
  have hI := vZ hs hc
  have h1 : 0 ≤ c.Layer * g.H ∧ c.Layer * g.H ≤ 7 * 200 := ⟨Int.mul_nonneg hz.1 (by omega), Int.mul_le_mul (by omega) hH.2 (by omega) (by omega)⟩
  have h2 : 0 ≤ (c.Layer * g.H + c.Y) * g.W ∧ (c.Layer * g.H + c.Y) * g.W ≤ 2000 * 200 := ⟨Int.mul_nonneg (by omega) (by omega), Int.mul_le_mul (by omega) hW.2 (by omega) (by omega)⟩
  unfold iQ
  unfold Lj at h hI
  rw [fO (n := c.Layer * g.H) (by omega) (by omega), fO (n := c.Layer * g.H + c.Y) (by omega) (by omega), fO (n := (c.Layer * g.H + c.Y) * g.W) (by omega) (by omega), fO (by omega) (by omega)]
  exact h
theorem Ce (hs : Sz g) {Q : Bool → Prop} (h : Q (inG g c)) : nR g c Q := by
  have hW := hs.W; have hH := hs.H; have hL := hs.L
  unfold nR
  rw [fO (n := g.W - 1) (by omega) (by omega), fO (n := g.H - 1) (by omega) (by omega), fO (n := g.Layers - 1) (by omega) (by omega)]
  unfold inG at h
  refine fB (fun e => fB (fun e2 => ?_) (fun e2 => ?_)) (fun e => ?_) <;> simp only [e, Bool.true_and, Bool.false_and] at h <;> first | (simp only [e2, Bool.true_and, Bool.false_and] at h; exact h) | exact h
theorem yV (hs : Sz g) {Q : Bool → Prop} (h : Q (inG g c)) : qQ g c Q := Ce hs h
def Fq (a b : Cell) : Bool := decide (a.Layer < b.Layer ∨ (a.Layer = b.Layer ∧ (a.Y < b.Y ∨ (a.Y = b.Y ∧ a.X < b.X))))
theorem FM {a b : Cell} {Q : Bool → Prop} (h : Q (Fq a b)) : oW a b Q := by
  unfold oW
  unfold Fq at h
  refine fB (fun e => ?_) (fun e => fB (fun e2 => ?_) (fun e2 => ?_)) <;> simp at e <;> try simp at e2
  · rw [show decide (a.Layer < b.Layer ∨ (a.Layer = b.Layer ∧ (a.Y < b.Y ∨ (a.Y = b.Y ∧ a.X < b.X)))) = decide (a.Layer < b.Layer) from decide_eq_decide.2 (by omega)] at h; exact h
  · rw [show decide (a.Layer < b.Layer ∨ (a.Layer = b.Layer ∧ (a.Y < b.Y ∨ (a.Y = b.Y ∧ a.X < b.X)))) = decide (a.Y < b.Y) from decide_eq_decide.2 (by omega)] at h; exact h
  · rw [show decide (a.Layer < b.Layer ∨ (a.Layer = b.Layer ∧ (a.Y < b.Y ∨ (a.Y = b.Y ∧ a.X < b.X)))) = decide (a.X < b.X) from decide_eq_decide.2 (by omega)] at h; exact h
theorem Qo (G : Gr) {n m : Nat} : n < m ↔ G.Z n < G.Z m ∨ (G.Z n = G.Z m ∧ (G.Y n < G.Y m ∨ (G.Y n = G.Y m ∧ G.X n < G.X m))) := by
  have key : ∀ n m : Nat, n < m → G.Z n < G.Z m ∨ (G.Z n = G.Z m ∧ (G.Y n < G.Y m ∨ (G.Y n = G.Y m ∧ G.X n < G.X m))) := fun n m h => by
    have h1 : n / G.W ≤ m / G.W := Nat.div_le_div_right (Nat.le_of_lt h)
    have h2 : G.Z n ≤ G.Z m := Nat.div_le_div_right h1
    rcases Nat.lt_or_eq_of_le h2 with h3 | h3
    · exact .inl h3
    · refine .inr ⟨h3, ?_⟩
      have e1 := Nat.div_add_mod (n / G.W) G.H
      have e2 := Nat.div_add_mod (m / G.W) G.H
      have h4 : G.Y n ≤ G.Y m := by
        show n / G.W % G.H ≤ m / G.W % G.H
        have : n / G.W / G.H = m / G.W / G.H := h3
        rw [this] at e1; omega
      rcases Nat.lt_or_eq_of_le h4 with h5 | h5
      · exact .inl h5
      · refine .inr ⟨h5, ?_⟩
        have h6 : n / G.W = m / G.W := by
          have a1 : n / G.W / G.H = m / G.W / G.H := h3
          have a2 : n / G.W % G.H = m / G.W % G.H := h5
          rw [a1, a2] at e1; omega
        have e3 := Nat.div_add_mod n G.W
        have e4 := Nat.div_add_mod m G.W
        show n % G.W < m % G.W
        rw [h6] at e3; omega
  constructor
  · exact key n m
  · intro h
    rcases Nat.lt_trichotomy n m with h1 | h1 | h1
    · exact h1
    · subst h1; omega
    · have := key m n h1; omega
theorem BI (hs : Sz g) {d : Cell} (hc : inG g c = true) (hd : inG g d = true) : Fq c d = decide (gq g c < gq g d) := by
  obtain ⟨a1, a2, a3⟩ := Aw hs hc
  obtain ⟨b1, b2, b3⟩ := Aw hs hd
  obtain ⟨hx, hy, hz⟩ := tu.1 hc
  obtain ⟨ix, iy, iz⟩ := tu.1 hd
  unfold Fq
  refine decide_eq_decide.2 ?_
  rw [Qo (grG g), a1, a2, a3, b1, b2, b3]; omega
theorem Ju {xs : List Cell} {k : Nat} {x : Cell} (hx : xs[k]? = some x) (hk : 0 < k) (hl : xs.length ≤ 1000000) {K : Cell → Prop} (h : K (xs.getD (k - 1) default)) : idx xs (w64 ((k : Int) - 1)) K := by
  have hlt := dO hx
  rw [fO (n := (k : Int) - 1) (by omega) (by omega)]
  rw [show ((k : Int) - 1) = ((k - 1 : Nat) : Int) by omega]
  have h2 : xs[k - 1]? = some (xs[k - 1]'(by omega)) := List.getElem?_eq_getElem (by omega)
  refine gG h2 ?_
  rw [List.getD_eq_getElem?_getD, h2] at h
  exact h
theorem FP {xs : List Cell} {k : Nat} {x : Cell} (hx : xs[k]? = some x) (hk : 0 < k) : xs[k - 1]? = some (xs.getD (k - 1) default) := by
  have hlt := dO hx
  rw [List.getD_eq_getElem?_getD, List.getElem?_eq_getElem (show k - 1 < xs.length by omega)]; rfl
theorem DF (hs : Sz g) : w64 ((w64 (g.W * g.H)) * g.Layers) = g.W * g.H * g.Layers := by
  have hN := N9 hs
  have hW := hs.W; have hH := hs.H; have hL := hs.L
  have h1 : 0 ≤ g.W * g.H ∧ g.W * g.H ≤ 200 * 200 := ⟨Int.mul_nonneg (by omega) (by omega), Int.mul_le_mul hW.2 hH.2 (by omega) (by omega)⟩
  rw [fO (n := g.W * g.H) (by omega) (by omega), J6 hs, fO] <;> omega
theorem ET {Q : Int → Prop} (h : Q (uf g)) : mG g Q := by
  unfold mG
  unfold uf at h
  have bad : o7 g = false → jc g Q true := fun e => by
    rw [if_pos e] at h; unfold jc; simp only [iJ]; exact h
  refine fB (fun e => bad ?_) (fun e => fB (fun e2 => bad ?_) (fun e2 => ?_))
  · simp at e; simp [o7, e]
  · simp at e2; simp [o7, e2]
  · cases e3 : within g.Layers 1 8 with
    | false => exact bad (by simp [o7, e3])
    | true =>
      simp at e e2
      have hs : Sz g := (La g).1 (by simp [o7, e, e2, e3])
      rw [if_neg (by simp [o7, e, e2, e3])] at h
      unfold jc
      simp only [Bool.not_true, gY]
      rw [DF hs]
      have large : g.W * g.H * g.Layers > 40000 ∨ (g.Blocked.length : Int) > 40000 → jC g Q true := fun hl => by
        rw [if_pos hl] at h; unfold jC; simp only [iJ]; exact h
      refine fB (fun e4 => large (.inl (by simpa using e4))) (fun e4 => ?_)
      by_cases e5 : (g.Blocked.length : Int) > 40000
      · rw [decide_eq_true e5]; exact large (.inr e5)
      · rw [decide_eq_false e5]
        unfold jC
        simp only [gY]
        have e4' : ¬ g.W * g.H * g.Layers > 40000 := by simpa using e4
        rw [if_neg (fun hh => hh.elim e4' e5)] at h
        refine ve (Q := Q) (wz g) (fun k x next hx hI hne h0 => ?_) ?_
        · unfold lM
          refine Ce hs ?_
          unfold wz at hne h0
          refine fB (fun e6 => ?_) (fun e6 => ?_)
          · have e6' : inG g x = false := by simpa using e6
            rw [if_pos e6'] at hne; exact hne (by decide)
          · have e6' : inG g x = true := by simpa using e6
            rw [if_neg (by simp [e6'])] at hne h0
            refine fB (fun e7 => ?_) (fun e7 => ?_)
            · have hk : 0 < k := by simpa using e7
              refine Ju hx hk (by omega) ?_
              have hp := hI (k - 1) _ (by omega) (FP hx hk)
              have hpg : inG g (g.Blocked.getD (k - 1) default) = true := by
                cases hq : inG g (g.Blocked.getD (k - 1) default) with
                | true => rfl
                | false => unfold wz at hp; rw [if_pos hq] at hp; exact absurd hp (by decide)
              refine qH hs e6' (qH hs hpg ?_)
              rw [← vZ hs e6', ← vZ hs hpg]
              unfold kH
              refine fB (fun e8 => ?_) (fun e8 => ?_)
              · rw [if_pos ⟨hk, by simpa using e8⟩] at hne; exact hne (by decide)
              · rw [if_neg (fun hh => of_decide_eq_false e8 hh.2)] at h0; exact h0 rfl
            · have hk : ¬ 0 < k := by simpa using e7
              unfold kH
              simp only [gY]
              rw [if_neg (fun hh => hk hh.1)] at h0; exact h0 rfl
        · split
          · rename_i e9; rw [e9] at h; exact h
          · exact h
theorem zK {Q : Int → Prop} (h : Q (uf g)) : nN g Q := by
  unfold nN
  unfold uf at h
  have bad : o7 g = false → jo g Q true := fun e => by
    rw [if_pos e] at h; unfold jo; simp only [iJ]; exact h
  refine fB (fun e => bad ?_) (fun e => fB (fun e2 => bad ?_) (fun e2 => ?_))
  · simp at e; simp [o7, e]
  · simp at e2; simp [o7, e2]
  · cases e3 : within g.Layers 1 8 with
    | false => exact bad (by simp [o7, e3])
    | true =>
      simp at e e2
      have hs : Sz g := (La g).1 (by simp [o7, e, e2, e3])
      rw [if_neg (by simp [o7, e, e2, e3])] at h
      unfold jo
      simp only [Bool.not_true, gY]
      rw [DF hs]
      have large : g.W * g.H * g.Layers > 40000 ∨ (g.Blocked.length : Int) > 40000 → jQ g Q true := fun hl => by
        rw [if_pos hl] at h; unfold jQ; simp only [iJ]; exact h
      refine fB (fun e4 => large (.inl (by simpa using e4))) (fun e4 => ?_)
      by_cases e5 : (g.Blocked.length : Int) > 40000
      · rw [decide_eq_true e5]; exact large (.inr e5)
      · rw [decide_eq_false e5]
        unfold jQ
        simp only [gY]
        have e4' : ¬ g.W * g.H * g.Layers > 40000 := by simpa using e4
        rw [if_neg (fun hh => hh.elim e4' e5)] at h
        refine ve (Q := Q) (wz g) (fun k x next hx hI hne h0 => ?_) ?_
        · unfold mV
          refine yV hs ?_
          unfold wz at hne h0
          refine fB (fun e6 => ?_) (fun e6 => ?_)
          · have e6' : inG g x = false := by simpa using e6
            rw [if_pos e6'] at hne; exact hne (by decide)
          · have e6' : inG g x = true := by simpa using e6
            rw [if_neg (by simp [e6'])] at hne h0
            refine fB (fun e7 => ?_) (fun e7 => ?_)
            · have hk : 0 < k := by simpa using e7
              refine Ju hx hk (by omega) ?_
              have hp := hI (k - 1) _ (by omega) (FP hx hk)
              have hpg : inG g (g.Blocked.getD (k - 1) default) = true := by
                cases hq : inG g (g.Blocked.getD (k - 1) default) with
                | true => rfl
                | false => unfold wz at hp; rw [if_pos hq] at hp; exact absurd hp (by decide)
              rw [vZ hs e6', vZ hs hpg] at hne h0
              refine FM ?_
              rw [BI hs hpg e6']
              unfold kL
              refine fB (fun e8 => ?_) (fun e8 => ?_)
              · rw [if_pos ⟨hk, by
                  rcases Nat.lt_or_ge (gq g (g.Blocked.getD (k - 1) default)) (gq g x) with h9 | h9
                  · rw [decide_eq_true h9] at e8; cases e8
                  · omega⟩] at hne
                exact hne (by decide)
              · rw [if_neg (fun hh => by
                  rcases Nat.lt_or_ge (gq g (g.Blocked.getD (k - 1) default)) (gq g x) with h9 | h9
                  · omega
                  · rw [decide_eq_false (Nat.not_lt.2 h9)] at e8; cases e8)] at h0
                exact h0 rfl
            · have hk : ¬ 0 < k := by simpa using e7
              unfold kL
              simp only [gY]
              rw [if_neg (fun hh => hk hh.1)] at h0; exact h0 rfl
        · split
          · rename_i e9; rw [e9] at h; exact h
          · exact h
end
theorem Cc {c : gy} {Q : Int → Prop} (h : Q (Ec c)) : nP c Q := by
  unfold nP jr
  unfold Ec at h
  cases e1 : within c.Step 1 1000 <;> cases e2 : within c.Via 1 1000 <;> cases e3 : within c.Turn 0 1000 <;> cases e4 : within c.Against 0 1000 <;> simp only [e1, e2, e3, e4] at h <;> simpa using h
theorem Ew {c : gy} {Q : Int → Prop} (h : Q (Ec c)) : ru c Q := Cc h
def uU (g : Grid) (c : gy) : Int := if uf g ≠ 0 then uf g else Ec c
theorem EP {g : Grid} {c : gy} {Q : Int → Prop} (h : Q (uU g c)) : mD g c Q := by
  unfold mD
  unfold uU at h
  refine ET (fB (fun e => ?_) (fun e => Cc ?_))
  · rw [if_pos (by simpa using e)] at h; exact h
  · rw [if_neg (by simpa using e)] at h; exact h
theorem MN {g : Grid} {c : gy} {Q : Int → Prop} (h : Q (uU g c)) : rO g c Q := by
  unfold rO
  unfold uU at h
  refine zK (fB (fun e => ?_) (fun e => Ew ?_))
  · rw [if_pos (by simpa using e)] at h; exact h
  · rw [if_neg (by simpa using e)] at h; exact h
structure GOk (g : Grid) : Prop where
  sz : Sz g
  N : (grG g).N ≤ 40000
  len : g.Blocked.length ≤ 40000
  blk : ∀ c ∈ g.Blocked, inG g c = true
theorem oZ {g : Grid} (h : uf g = 0) : GOk g := by
  unfold uf at h
  split at h
  · exact absurd h (by decide)
  · rename_i e1
    have hs : Sz g := (La g).1 (by simpa using e1)
    split at h
    · exact absurd h (by decide)
    · rename_i e2
      have hN := J6 hs
      refine ⟨hs, by omega, by omega, fun c hc => ?_⟩
      obtain ⟨i, hi⟩ := List.getElem?_of_mem hc
      have := wC h i c hi
      rw [Nat.zero_add] at this
      unfold wz at this
      cases hq : inG g c with
      | true => rfl
      | false => rw [if_pos hq] at this; exact absurd this (by decide)
structure COk (c : gy) : Prop where
  step : 1 ≤ c.Step ∧ c.Step ≤ 1000
  via : 1 ≤ c.Via ∧ c.Via ≤ 1000
  turn : 0 ≤ c.Turn ∧ c.Turn ≤ 1000
  agn : 0 ≤ c.Against ∧ c.Against ≤ 1000
theorem JO {c : gy} (h : Ec c = 0) : COk c := by
  unfold Ec at h
  split at h
  · rename_i e; simp only [Bool.and_eq_true, within_iff] at e; exact ⟨e.1.1.1, e.1.1.2, e.1.2, e.2⟩
  · exact absurd h (by decide)
theorem yX {g : Grid} {c : gy} (h : uU g c = 0) : GOk g ∧ COk c := by
  unfold uU at h
  split at h
  · rename_i e; exact absurd h e
  · rename_i e; exact ⟨oZ (by simpa using e), JO h⟩
def kS (g : Grid) : List Bool := (List.range (grG g).N).map (fun n => g.Blocked.any (fun c => decide (gq g c = n)))
theorem zQ {g : Grid} {n : Nat} (h : n < (grG g).N) : (kS g)[n]? = some (g.Blocked.any (fun c => decide (gq g c = n))) := by
  unfold kS; rw [List.getElem?_map, List.getElem?_range h]; rfl
theorem Ba {g : Grid} (hg : GOk g) {c : Cell} (hc : inG g c = true) : (kS g)[gq g c]? = some (decide (c ∈ g.Blocked)) := by
  rw [zQ (oK hg.sz hc)]
  congr 1
  rw [Bool.eq_iff_iff]
  simp only [List.any_eq_true, decide_eq_true_eq]
  exact ⟨fun ⟨d, hd, e⟩ => yH hg.sz (hg.blk d hd) hc e ▸ hd, fun h => ⟨c, h, rfl⟩⟩
theorem Ep {g : Grid} (hg : GOk g) {Q : List Bool → Prop} (h : Q (kS g)) : mO g Q := by
  have hN := J6 hg.sz
  have hN2 := hg.N
  unfold mO
  rw [DF hg.sz, hN]
  refine ⟨⟨by omega, by omega⟩, ?_⟩
  rw [Int.toNat_natCast]
  refine jO (fun k (l : List Bool) => l.length = (grG g).N ∧ ∀ n, n < (grG g).N → l[n]? = some ((g.Blocked.take k).any (fun c => decide (gq g c = n)))) ⟨by simp, fun n hn => ?_⟩ (fun k x l hx hI next hn => ?_) (fun l hI => ?_)
  · rw [List.getElem?_replicate, if_pos hn]; simp
  · unfold nU
    have hxm : x ∈ g.Blocked := List.mem_of_getElem? hx
    have hxg := hg.blk x hxm
    have hxl := oK hg.sz hxg
    refine qH hg.sz hxg ?_
    refine gG (List.getElem?_eq_getElem (by rw [hI.1]; exact hxl)) ?_
    rw [Int.toNat_natCast]
    refine hn _ ⟨by rw [List.length_set]; exact hI.1, fun n hnn => ?_⟩
    rw [List.take_add_one, hx, List.any_append, List.getElem?_set]
    simp only [Option.toList, List.any_cons, List.any_nil, Bool.or_false]
    split
    · rename_i e; rw [if_pos (by rw [hI.1]; exact hxl)]; simp [e]
    · rename_i e; rw [hI.2 n hnn]; simp [e]
  · have : l = kS g := by
      apply List.ext_getElem?
      intro n
      rcases Nat.lt_or_ge n (grG g).N with hn | hn
      · rw [hI.2 n hn, zQ hn, List.take_length]
      · rw [List.getElem?_eq_none (by rw [hI.1]; exact hn), List.getElem?_eq_none (by unfold kS; simp; exact hn)]
    subst this; exact h
def df (a b : Int) : Int := max (a - b) (b - a)
def axC (a b : Cell) : Int :=
  if df a.X b.X = 1 ∧ df a.Y b.Y + df a.Layer b.Layer = 0 then 1
  else if df a.Y b.Y = 1 ∧ df a.X b.X + df a.Layer b.Layer = 0 then 2
  else if df a.Layer b.Layer = 1 ∧ df a.X b.X + df a.Y b.Y = 0 then 3 else 0
section
variable {g : Grid} {a b : Cell}
theorem Ld {p q : Int} (hp : 0 ≤ p ∧ p ≤ 1000) (hq : 0 ≤ q ∧ q ≤ 1000) : max (w64 (p - q)) (w64 (q - p)) = df p q ∧ 0 ≤ df p q ∧ df p q ≤ 1000 := by
  rw [fO (n := p - q) (by omega) (by omega), fO (n := q - p) (by omega) (by omega)]
  unfold df; omega
theorem LW (hs : Sz g) (ha : inG g a = true) (hb : inG g b = true) {Q : Int → Prop} (h : Q (axC a b)) : sS a b Q := by
  obtain ⟨ax, ay, az⟩ := tu.1 ha
  obtain ⟨bx, by_, bz⟩ := tu.1 hb
  have hW := hs.W; have hH := hs.H; have hL := hs.L
  have ap : ∀ p q : Int, 0 ≤ p ∧ p ≤ 1000 → 0 ≤ q ∧ q ≤ 1000 → w64 (max p q - min p q) = df p q := fun p q hp hq => by
    unfold df; rw [fO] <;> omega
  obtain ⟨_, p1, q1⟩ := Ld (p := a.X) (q := b.X) (by omega) (by omega)
  obtain ⟨_, p2, q2⟩ := Ld (p := a.Y) (q := b.Y) (by omega) (by omega)
  obtain ⟨_, p3, q3⟩ := Ld (p := a.Layer) (q := b.Layer) (by omega) (by omega)
  unfold sS tX
  dsimp only
  rw [ap _ _ (by omega) (by omega), ap _ _ (by omega) (by omega), ap _ _ (by omega) (by omega)]
  unfold axC at h
  generalize df a.X b.X = x at *
  generalize df a.Y b.Y = y at *
  generalize df a.Layer b.Layer = z at *
  rw [fO (n := x + y) (by omega) (by omega), fO (n := x + y + z) (by omega) (by omega)]
  refine fB (fun e => ?_) (fun e => fB (fun e2 => ?_) (fun e2 => fB (fun e3 => ?_) (fun e3 => ?_)))
  · simp at e
    rw [if_neg (by omega), if_neg (by omega), if_neg (by omega)] at h; exact h
  · simp at e e2
    rw [if_pos (by omega)] at h; exact h
  · simp at e e2 e3
    rw [if_neg (by omega), if_pos (by omega)] at h; exact h
  · simp at e e2 e3
    rw [if_neg (by omega), if_neg (by omega), if_pos (by omega)] at h; exact h
end
theorem oC {s : List Cell} {v : Cell} {Q : Bool → Prop} (h : Q (decide (v ∈ s))) : jI s v Q := by
  unfold jI xq
  refine yR (A := Q true) (fun x => decide (v = x)) (fun k x next hn => ?_) s 0 ?_
  · unfold qM
    refine fB (fun e => ?_) (fun e => ?_)
    · rw [if_pos e] at hn; rw [decide_eq_true (by omega)]; exact hn
    · rw [if_neg (by simp [e])] at hn; exact hn
  · have : s.any (fun x => decide (v = x)) = decide (v ∈ s) := by
      rw [Bool.eq_iff_iff, List.any_eq_true, decide_eq_true_eq]
      exact ⟨fun ⟨x, hx, e⟩ => (of_decide_eq_true e) ▸ hx, fun h => ⟨v, h, decide_eq_true rfl⟩⟩
    rw [this]
    split
    · rename_i e; rw [e] at h; exact h
    · rename_i e; rw [show decide (v ∈ s) = false by simpa using e] at h; simpa using h
theorem Oe {c : gy} (hc : COk c) (layer last al : Int) : 0 ≤ (uF c layer last al).1 ∧ (uF c layer last al).1 ≤ 3000 := by
  have h1 := hc.step; have h2 := hc.via; have h3 := hc.turn; have h4 := hc.agn
  have e1 : w64 (c.Step + c.Against) = c.Step + c.Against := fO (by omega) (by omega)
  have e2 : w64 (c.Step + c.Against + c.Turn) = c.Step + c.Against + c.Turn := fO (by omega) (by omega)
  have e3 : w64 (c.Step + c.Turn) = c.Step + c.Turn := fO (by omega) (by omega)
  unfold uF
  split
  · simp only; omega
  · simp only
    split <;> split <;> (try simp only [e1, e2, e3]) <;> omega
theorem Ar {c : gy} {layer last al : Int} {Q : Int → Prop} (h : Q (uF c layer last al).1) : nZ c layer al last Q := by
  have := Fj c layer last al (Q := fun n _ => Q n) h
  unfold jL kP kN kM at this
  unfold nZ nO nT
  exact this
def findF (g : Grid) (c : gy) (l : List Cell) : Int :=
  if uU g c ≠ 0 then uU g c else if l.any (fun x => !inG g x) = true then 1 else if l.any (fun x => decide (x ∈ g.Blocked)) = true then 14 else 0
theorem Qg {g : Grid} {c : gy} {l : List Cell} {Q : Option (List Bool) → Int → Prop} (h1 : findF g c l ≠ 0 → Q none (findF g c l)) (h0 : findF g c l = 0 → Q (some (kS g)) 0) : Gn g c l Q := by
  unfold Gn
  unfold findF at h1 h0
  refine EP (fB (fun e => ?_) (fun e => ?_))
  · have e' : uU g c ≠ 0 := by simpa using e
    rw [if_pos e'] at h1; exact h1 e'
  · have e' : uU g c = 0 := by simpa using e
    obtain ⟨hg, hc⟩ := yX e'
    rw [if_neg (by simp [e'])] at h1 h0
    refine Ep hg ?_
    unfold oQ rq
    refine yR (A := Q none 1) (fun x => !inG g x) (fun k x next hn => ?_) l 0 ?_
    · unfold lZ Fp
      refine Ce hg.sz ?_
      refine fB (fun e2 => ?_) (fun e2 => ?_)
      · rw [if_pos (by simpa using e2)] at hn
        rw [decide_eq_true (by omega)]; simpa using hn
      · rw [if_neg (by simp [e2])] at hn; exact hn
    · split
      · rename_i e2; rw [if_pos e2] at h1; exact h1 (by decide)
      · rename_i e2
        rw [if_neg e2] at h1 h0
        have hin : ∀ x ∈ l, inG g x = true := fun x hx => by
          cases hq : inG g x with
          | true => rfl
          | false => exact absurd (List.any_eq_true.2 ⟨x, hx, by simp [hq]⟩) e2
        show cnd (decide ((-1 : Int) ≥ 0)) _ _
        rw [show decide ((-1 : Int) ≥ 0) = false by decide]
        simp only [gY]
        show lS _ _ _ _
        unfold lS rC
        -- only cells of the grid are asked for
        refine ve (t := l) (Q := fun n => Q none n) (D := cnd (decide ((-1 : Int) ≥ 0)) (Q none 14) (Q (some (kS g)) 0)) (body := fun k x s next => kJ ⟨g, c, kS g⟩ g (fun y1 => cnd (decide (y1 ≥ 0)) (Q none 14) (Q (some (kS g)) 0)) k x (next ())) (fun k x => if x ∈ g.Blocked then 14 else 0) (fun k x next hx hI hne hz => ?_) ?_
        · unfold kJ FB
          have hxg := hin x (List.mem_of_getElem? hx)
          refine qH hg.sz hxg ?_
          refine gG (Ba hg hxg) ?_
          refine fB (fun e3 => ?_) (fun e3 => ?_)
          · rw [if_pos (by simpa using e3)] at hne
            rw [decide_eq_true (by omega)]; simp only [iJ]; exact hne (by decide)
          · rw [if_neg (by simpa using e3)] at hz; exact hz rfl
        · have hfb : ∀ (l : List Cell) (k : Nat), iM (fun k x => if x ∈ g.Blocked then (14 : Int) else 0) l k = if l.any (fun x => decide (x ∈ g.Blocked)) = true then 14 else 0 := by
            intro l
            induction l with
            | nil => intro k; rfl
            | cons x r ih =>
              intro k
              unfold iM
              by_cases hb : x ∈ g.Blocked
              · rw [if_pos hb, if_pos (by decide), if_pos (by simp [hb])]
              · rw [if_neg hb, if_neg (by simp), ih]; simp [hb]
          rw [hfb]
          by_cases hb : l.any (fun x => decide (x ∈ g.Blocked)) = true
          · rw [if_pos hb] at h1 ⊢; rw [if_neg (by decide)]; exact h1 (by decide)
          · rw [if_neg hb] at h0 ⊢; rw [if_pos rfl]; simpa using h0 rfl
theorem KI {g : Grid} {c : gy} {l : List Cell} (h : findF g c l = 0) : GOk g ∧ COk c ∧ ∀ x ∈ l, inG g x = true ∧ x ∉ g.Blocked := by
  unfold findF at h
  split at h
  · rename_i e; exact absurd h e
  · rename_i e
    obtain ⟨hg, hc⟩ := yX (show uU g c = 0 by simpa using e)
    split at h
    · exact absurd h (by decide)
    · rename_i e2
      split at h
      · exact absurd h (by decide)
      · rename_i e3
        refine ⟨hg, hc, fun x hx => ⟨?_, fun hb => e3 (List.any_eq_true.2 ⟨x, hx, by simpa using hb⟩)⟩⟩
        cases hq : inG g x with
        | true => rfl
        | false => exact absurd (List.any_eq_true.2 ⟨x, hx, by simp [hq]⟩) e2
def grC (g : Grid) (c : gy) : Gr := gu ⟨g, c, kS g⟩
theorem uo {g : Grid} {c : gy} (hg : GOk g) (hc : COk c) : rf ⟨g, c, kS g⟩ :=
  ⟨hg.sz.W, hg.sz.H, hg.sz.L, hg.N, by unfold kS; simp; rfl, ⟨hc.step, hc.via, hc.turn, hc.agn⟩⟩
def Eh (d : Int) : Int × Bool := if d < 0 then (0, false) else (d / kB, true)
theorem Wk.le {E : Nat → List (Nat × Int)} {S : List Nat} {N : Nat} {K : Int} (hE : Ih E N K) (hS : ∀ s ∈ S, s < N) {s : Nat} {c : Int} {n : Nat} (h : Wk E S s c n) : s < N ∧ 0 ≤ c ∧ c ≤ n * K := by
  induction h with
  | start hs => exact ⟨hS _ hs, Int.le_refl _, by simp⟩
  | step w he ih =>
    obtain ⟨h1, h2, h3⟩ := ih
    obtain ⟨h4, h5, h6⟩ := (hE _ h1).2 _ he
    simp only at h4 h5 h6
    exact ⟨h4, by omega, by rw [show ∀ n : Nat, ((n + 1 : Nat) : Int) = (n : Int) + 1 from fun n => by omega, Int.add_mul]; omega⟩
theorem least_le {g : Grid} {c : gy} (hg : GOk g) (hc : COk c) {back : Bool} {S : List Nat} (hS : ∀ s ∈ S, s < 3 * (grG g).N) {out : List Int} (h : Least ((grC g c).E back) S (3 * (grG g).N) out) {s : Nat} {d : Int} (hd : out[s]? = some d) (h0 : 0 ≤ d) :
    ∃ k n, Wk ((grC g c).E back) S s k n ∧ d = k * kB + n ∧ 0 ≤ k ∧ n < 120000 ∧ k ≤ 360000000 := by
  obtain ⟨k, n, w, e, p, b⟩ := h.way s d hd h0
  have hN := hg.N
  have hle := Wk.le ((uo hg hc).ok.good back) hS w
  exact ⟨k, n, w, e, p, by omega, by have := hle.2.2; omega⟩
theorem O5 {g : Grid} {c : gy} {a b : Cell} {Q : Int → Bool → Int → Prop} (h1 : findF g c [a, b] ≠ 0 → Q 0 false (findF g c [a, b]))
    (h0 : findF g c [a, b] = 0 → ∀ out d, Least ((grC g c).E true) [3 * gq g b, 3 * gq g b + 1, 3 * gq g b + 2] (3 * (grG g).N) out → out[3 * gq g a]? = some d → Q (Eh d).1 (Eh d).2 0) : uy g c a b Q := by
  unfold uy
  refine Qg (fun e => ⟨fun _ => ?_, fun x hx => by cases hx⟩) (fun e => ⟨fun hx => (by cases hx), fun x hx => ?_⟩)
  · refine fB (fun _ => h1 e) (fun e2 => absurd (by simpa using e2) e)
  · injection hx with hx; subst hx
    obtain ⟨hg, hc, hl⟩ := KI e
    have ha := hl a (by simp)
    have hb := hl b (by simp)
    have hna := oK hg.sz ha.1
    have hnb := oK hg.sz hb.1
    have hN := hg.N
    show cnd false _ _
    simp only [gY]
    refine qH hg.sz hb.1 ?_
    refine QB (uo hg hc) hnb (fun out hout => ?_)
    refine qH hg.sz ha.1 ?_
    rw [show w64 (3 * (gq g a : Int)) = ((3 * gq g a : Nat) : Int) by rw [fO] <;> omega]
    have hd : out[3 * gq g a]? = some (out[3 * gq g a]'(by have := hout.len; rw [this]; show _ < 3 * (grG g).N; omega)) := List.getElem?_eq_getElem _
    refine gG hd ?_
    have := h0 e out _ hout hd
    generalize out[3 * gq g a]'_ = d at this hd ⊢
    unfold Eh at this
    refine fB (fun e2 => ?_) (fun e2 => ?_)
    · rw [if_pos (by simpa using e2)] at this; exact this
    · have e3 : ¬ d < 0 := by simpa using e2
      rw [if_neg e3] at this
      obtain ⟨k, n, _, hdk, hk0, hn, hk⟩ := least_le hg hc (fun s hs => by simp at hs; omega) hout hd (by omega)
      have hkB : kB = 1048576 := rfl
      rw [show w64 (d.tdiv 1048576) = d / kB by rw [Int.tdiv_eq_ediv_of_nonneg (by omega), hkB]; rw [hkB] at hdk; exact fO (by omega) (by omega)]
      exact this
end Go.Proofs.YtfjcgoiedlimdaaGreatDoor

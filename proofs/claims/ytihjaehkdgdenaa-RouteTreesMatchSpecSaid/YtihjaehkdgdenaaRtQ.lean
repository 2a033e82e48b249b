/- Chapter texts of ours, as far as the claim needs them. -/
import Derived.Test.YtihjaehkdgdenaaRtP
import Derived.Test.YtihjaehkdgdenaaRtS
namespace Go.Proofs.Ytihjaehkdgdenaa
open Go Go.RowKit
set_option linter.unusedVariables false
set_option linter.unusedSimpArgs false
section
variable {g : Grid} {c : Costs} {n m : Nat}
structure FOk (f : R7Field) : Prop where
  g : GOk f.g
  c : COk f.c
  blk : f.blocked = noOf f.g
variable {f : R7Field}
theorem S_field_at (hs : Sz f.g) {a : Cell} (ha : inG f.g a = true) {Q : Int → Prop} (h : Q (numN f.g a : Int)) : M_field_at f a Q := S_number hs ha h
theorem S_field_cell (hs : Sz f.g) (hn : n < (grG f.g).N) {Q : Cell → Prop} (h : Q (cellN f.g n)) : M_field_cell f (n : Int) Q := by
  have := S_cell_at hs hn h
  unfold M_route_cell at this
  unfold M_field_cell
  exact this
theorem nb_stepF (hf : FOk f) {x : Cell} {cond : Bool} {al : Int} (h1 : inG f.g x = cond) (h2 : cond = true → x = cellN f.g m ∧ m < (grG f.g).N) {l2 : List Cell} (hl : l2.length ≤ 6) {k : Nat} {next : List Cell → Prop}
    (hn : next (l2 ++ ((grC f.g f.c).nb1 cond m al).map (fun e => cellN f.g e.1))) : M_field_neighbours_L1 f k x l2 next := by
  unfold M_field_neighbours_L1
  refine S_ref_isCell hf.g.sz ?_
  rw [h1]
  unfold Gr.nb1 at hn
  refine cnd_of (fun e => ?_) (fun e => ?_)
  · obtain ⟨hx, hm⟩ := h2 e
    have hxi : inG f.g x = true := h1.trans e
    refine S_field_at hf.g.sz hxi ?_
    have hnum : numN f.g x = m := by rw [hx, numN_cellN]
    have hget : (noOf f.g)[m]? = some ((grC f.g f.c).no m) := (goodF_of hf.g hf.c).get hm
    rw [hnum, hf.blk]
    refine idx_nat hget ?_
    unfold M_field_neighbours_k2
    refine cnd_of (fun e2 => ?_) (fun e2 => ?_)
    · rw [if_pos ⟨e, by simpa using e2⟩] at hn
      refine ⟨room_of (by simp only [List.length_append, List.length_singleton]; omega) (by decide), ?_⟩
      rw [hx]; simpa using hn
    · rw [if_neg (fun hh => by rw [hh.2] at e2; simp at e2)] at hn
      simpa using hn
  · unfold M_field_neighbours_k2
    simp only [cnd_false]
    rw [if_neg (fun hh => by rw [e] at hh; exact absurd hh.1 (by simp))] at hn
    simpa using hn
theorem nb1_len (G : Gr) (b : Bool) (m : Nat) (al : Int) : (G.nb1 b m al).length ≤ 1 := by unfold Gr.nb1; split <;> simp
theorem S_neighbours (hf : FOk f) (hn : n < (grG f.g).N) {Q : List Cell → Prop} (h : Q (((grC f.g f.c).nbrs n).map (fun e => cellN f.g e.1))) : M_field_neighbours f (cellN f.g n) Q := by
  have hs := hf.g.sz
  have hx := (grG f.g).X_lt hn
  have hy := (grG f.g).Y_lt hn
  have hz := (grG f.g).Z_lt hn
  have hw := grG_w hs; have hh := grG_h hs; have hl := grG_l hs
  have hW := hs.W; have hH := hs.H; have hL := hs.L
  have hnum := (grG f.g).num_self n
  have key : ∀ (m : Nat) (x y z : Int), (0 ≤ x ∧ x < f.g.W) → (0 ≤ y ∧ y < f.g.H) → (0 ≤ z ∧ z < f.g.Layers) → m = (grG f.g).num x.toNat y.toNat z.toNat → (⟨x, y, z⟩ : Cell) = cellN f.g m ∧ m < (grG f.g).N := fun m x y z h1 h2 h3 hm => by
    obtain ⟨b1, b2, b3, b4⟩ := (grG f.g).nb_of (m := m) hn (x := x.toNat) (y := y.toNat) (z := z.toNat) (by omega) (by omega) (by omega) hm
    refine ⟨?_, b1⟩
    unfold cellN; rw [b2, b3, b4]
    simp only [Cell.mk.injEq]; omega
  unfold M_field_neighbours
  have e1 : w64 ((cellN f.g n).Layer - 1) = ((grG f.g).Z n : Int) - 1 := by unfold cellN; simp only; exact w64_id (by omega) (by omega)
  have e2 : w64 ((cellN f.g n).Y - 1) = ((grG f.g).Y n : Int) - 1 := by unfold cellN; simp only; exact w64_id (by omega) (by omega)
  have e3 : w64 ((cellN f.g n).X - 1) = ((grG f.g).X n : Int) - 1 := by unfold cellN; simp only; exact w64_id (by omega) (by omega)
  have e4 : w64 ((cellN f.g n).X + 1) = ((grG f.g).X n : Int) + 1 := by unfold cellN; simp only; exact w64_id (by omega) (by omega)
  have e5 : w64 ((cellN f.g n).Y + 1) = ((grG f.g).Y n : Int) + 1 := by unfold cellN; simp only; exact w64_id (by omega) (by omega)
  have e6 : w64 ((cellN f.g n).Layer + 1) = ((grG f.g).Z n : Int) + 1 := by unfold cellN; simp only; exact w64_id (by omega) (by omega)
  rw [e1, e2, e3, e4, e5, e6]
  have cX : (cellN f.g n).X = ((grG f.g).X n : Int) := rfl
  have cY : (cellN f.g n).Y = ((grG f.g).Y n : Int) := rfl
  have cZ : (cellN f.g n).Layer = ((grG f.g).Z n : Int) := rfl
  rw [cX, cY, cZ]
  have dec : ∀ (x y z : Int) (p : Prop) [Decidable p], (((0 ≤ x ∧ x < f.g.W) ∧ (0 ≤ y ∧ y < f.g.H) ∧ 0 ≤ z ∧ z < f.g.Layers) ↔ p) → inG f.g ⟨x, y, z⟩ = decide p := fun x y z p _ hp => by
    rw [Bool.eq_iff_iff, decide_eq_true_eq, ← hp]; exact inG_iff
  have l1 := fun b m al => nb1_len (grC f.g f.c) b m al
  unfold Gr.nbrs at h
  simp only [forIn']
  refine nb_stepF hf (m := n - (grG f.g).W * (grG f.g).H) (al := 3) (dec _ _ _ (0 < (grG f.g).Z n) (by omega)) (fun e => key _ _ _ _ (by omega) (by omega) (by simp at e; omega) ?_) (by simp) ?_
  · have e' : 0 < (grG f.g).Z n := by simpa using e
    obtain ⟨k, hk⟩ : ∃ k, (grG f.g).Z n = k + 1 := ⟨(grG f.g).Z n - 1, by omega⟩
    rw [show (((grG f.g).Z n : Int) - 1).toNat = k by omega]
    simp only [Int.toNat_natCast]
    rw [hk, Gr.num_z] at hnum; omega
  refine nb_stepF hf (m := n - (grG f.g).W) (al := 2) (dec _ _ _ (0 < (grG f.g).Y n) (by omega)) (fun e => key _ _ _ _ (by omega) (by simp at e; omega) (by omega) ?_) (by have := l1 (decide (0 < (grG f.g).Z n)) (n - (grG f.g).W * (grG f.g).H) 3; simp only [List.length_append, List.length_map, List.length_nil]; omega) ?_
  · have e' : 0 < (grG f.g).Y n := by simpa using e
    obtain ⟨k, hk⟩ : ∃ k, (grG f.g).Y n = k + 1 := ⟨(grG f.g).Y n - 1, by omega⟩
    rw [show (((grG f.g).Y n : Int) - 1).toNat = k by omega]
    simp only [Int.toNat_natCast]
    rw [hk, Gr.num_y] at hnum; omega
  refine nb_stepF hf (m := n - 1) (al := 1) (dec _ _ _ (0 < (grG f.g).X n) (by omega)) (fun e => key _ _ _ _ (by simp at e; omega) (by omega) (by omega) ?_) (by have := l1 (decide (0 < (grG f.g).Z n)) (n - (grG f.g).W * (grG f.g).H) 3; have := l1 (decide (0 < (grG f.g).Y n)) (n - (grG f.g).W) 2; simp only [List.length_append, List.length_map, List.length_nil]; omega) ?_
  · have e' : 0 < (grG f.g).X n := by simpa using e
    obtain ⟨k, hk⟩ : ∃ k, (grG f.g).X n = k + 1 := ⟨(grG f.g).X n - 1, by omega⟩
    rw [show (((grG f.g).X n : Int) - 1).toNat = k by omega]
    simp only [Int.toNat_natCast]
    rw [hk, Gr.num_x] at hnum; omega
  refine nb_stepF hf (m := n + 1) (al := 1) (dec _ _ _ ((grG f.g).X n + 1 < (grG f.g).W) (by omega)) (fun e => key _ _ _ _ (by simp at e; omega) (by omega) (by omega) ?_) (by have := l1 (decide (0 < (grG f.g).Z n)) (n - (grG f.g).W * (grG f.g).H) 3; have := l1 (decide (0 < (grG f.g).Y n)) (n - (grG f.g).W) 2; have := l1 (decide (0 < (grG f.g).X n)) (n - 1) 1; simp only [List.length_append, List.length_map, List.length_nil]; omega) ?_
  · rw [show (((grG f.g).X n : Int) + 1).toNat = (grG f.g).X n + 1 by omega]
    simp only [Int.toNat_natCast]
    rw [Gr.num_x, hnum]
  refine nb_stepF hf (m := n + (grG f.g).W) (al := 2) (dec _ _ _ ((grG f.g).Y n + 1 < (grG f.g).H) (by omega)) (fun e => key _ _ _ _ (by omega) (by simp at e; omega) (by omega) ?_) (by have := l1 (decide (0 < (grG f.g).Z n)) (n - (grG f.g).W * (grG f.g).H) 3; have := l1 (decide (0 < (grG f.g).Y n)) (n - (grG f.g).W) 2; have := l1 (decide (0 < (grG f.g).X n)) (n - 1) 1; have := l1 (decide ((grG f.g).X n + 1 < (grG f.g).W)) (n + 1) 1; simp only [List.length_append, List.length_map, List.length_nil]; omega) ?_
  · rw [show (((grG f.g).Y n : Int) + 1).toNat = (grG f.g).Y n + 1 by omega]
    simp only [Int.toNat_natCast]
    rw [Gr.num_y, hnum]
  refine nb_stepF hf (m := n + (grG f.g).W * (grG f.g).H) (al := 3) (dec _ _ _ ((grG f.g).Z n + 1 < (grG f.g).L) (by omega)) (fun e => key _ _ _ _ (by omega) (by omega) (by simp at e; omega) ?_) (by have := l1 (decide (0 < (grG f.g).Z n)) (n - (grG f.g).W * (grG f.g).H) 3; have := l1 (decide (0 < (grG f.g).Y n)) (n - (grG f.g).W) 2; have := l1 (decide (0 < (grG f.g).X n)) (n - 1) 1; have := l1 (decide ((grG f.g).X n + 1 < (grG f.g).W)) (n + 1) 1; have := l1 (decide ((grG f.g).Y n + 1 < (grG f.g).H)) (n + (grG f.g).W) 2; simp only [List.length_append, List.length_map, List.length_nil]; omega) ?_
  · rw [show (((grG f.g).Z n : Int) + 1).toNat = (grG f.g).Z n + 1 by omega]
    simp only [Int.toNat_natCast]
    rw [Gr.num_z, hnum]
  simp only [List.map_append, List.nil_append, List.append_assoc] at h ⊢
  exact h
end
def SpI (f : R7Field) (S : List Nat) (s0 : Nat) (b0 : Int × Int) (best : List (Int × Int)) (dn : List Bool) (C : Nat) (R : List (Nat × Int)) (l : List R7Entry) : Prop :=
  (∃ L, DR ((grC f.g f.c).E true) S (3 * (grG f.g).N) s0 b0 L R best dn (l.map pr7)) ∧ isHeap7 l ∧ (∀ y ∈ l, 0 ≤ y.state) ∧ l.length + R.length + 18 * (3 * (grG f.g).N - dn.count true) ≤ C ∧ C ≤ 4000000
theorem okE_of {E : Nat → List (Nat × Int)} {S : List Nat} {N : Nat} {A : Nat → Prop} {best : List (Int × Int)} {dn : List Bool} {l : List R7Entry} (hN : N ≤ 120000) (h : DInv E S N A best dn (l.map pr7)) : ∀ y ∈ l, okE y := fun y hy => by
  obtain ⟨_, c, n, _, e, _, hn⟩ := h.ent (pr7 y) (List.mem_map.2 ⟨y, hy, rfl⟩)
  have hc : dn.count true ≤ dn.length := List.count_le_length
  rw [h.ld] at hc
  have hkB : kB = 1048576 := rfl
  simp only [pr7, Prod.mk.injEq] at e
  unfold okE; omega
section
variable {f : R7Field} {S : List Nat} {s0 : Nat} {b0 : Int × Int} {best : List (Int × Int)} {dn : List Bool} {C : Nat} {R : List (Nat × Int)} {l : List R7Entry}
theorem SpI.push (hf : FOk f) {t : Nat} {k : Int} (hI : SpI f S s0 b0 best dn C ((t, k) :: R) l) {Q : R7Heap → Prop} (h : ∀ l', SpI f S s0 b0 best dn C R l' → Q ⟨l'⟩) : M_heap7_push ⟨l⟩ ⟨⟨b0.1 + k, b0.2 + 1⟩, (t : Int)⟩ Q := by
  obtain ⟨⟨L, hr⟩, hh, hs, hc, hC⟩ := hI
  have hN := hf.g.N
  have hp := hr.push ((goodF_of hf.g hf.c).ok.good true)
  have hok := okE_of (by omega) hr.base
  simp only [List.length_cons] at hc
  have hok2 : okE ⟨⟨b0.1 + k, b0.2 + 1⟩, (t : Int)⟩ := by
    refine okE_of (l := ⟨⟨b0.1 + k, b0.2 + 1⟩, (t : Int)⟩ :: l) (N := 3 * (grG f.g).N) (by omega) (E := (grC f.g f.c).E true) (S := S) (A := (· = s0)) (best := best) (dn := dn) ?_ _ List.mem_cons_self
    simpa [pr7] using hp.base
  refine S_push7 (by omega) hok hok2 hh (fun l' hpp hh' => h l' ⟨⟨_, hp.perm ?_⟩, hh', fun y hy => ?_, ?_, hC⟩)
  · have := hpp.map pr7
    simp only [List.map_cons, pr7, Int.toNat_natCast] at this
    exact this
  · rcases List.mem_cons.1 (hpp.mem_iff.1 hy) with hy | hy
    · subst hy; simp only; omega
    · exact hs y hy
  · rw [hpp.length_eq]; simp only [List.length_cons]; omega
def gE (G : Gr) (s : Nat) (m : Nat) (al : Int) (j : Nat) : List (Nat × Int) :=
  if (al = 3 ∧ j ≠ s % 3) ∨ (al ≠ 3 ∧ al ≠ ((s % 3 : Nat) : Int)) then [] else [(3 * m + j, if al = 3 then G.via else G.base (s / 3) al + G.tn (j : Int) al)]
theorem el_gE (G : Gr) (s m : Nat) (al : Int) : G.el true s (m, al) = gE G s m al 0 ++ (gE G s m al 1 ++ gE G s m al 2) := by
  unfold Gr.el gE
  simp only
  have h3 : s % 3 = 0 ∨ s % 3 = 1 ∨ s % 3 = 2 := by omega
  by_cases ha : al = 3
  · subst ha
    rcases h3 with h3 | h3 | h3 <;> rw [h3] <;> simp
  · by_cases hb : al = ((s % 3 : Nat) : Int)
    · have cc : ∀ j, ¬((al = 3 ∧ j ≠ s % 3) ∨ (al ≠ 3 ∧ al ≠ ((s % 3 : Nat) : Int))) := fun j => by omega
      rw [if_neg ha, if_pos trivial, if_pos hb, if_neg (cc 0), if_neg (cc 1), if_neg (cc 2)]
      simp only [if_neg ha]
      simp
    · rw [if_neg ha, if_pos trivial, if_neg hb, if_pos (.inr ⟨ha, hb⟩), if_pos (.inr ⟨ha, hb⟩), if_pos (.inr ⟨ha, hb⟩)]
      simp
theorem S_spread_L2 (hf : FOk f) {e : R7Entry} (hs0 : 0 ≤ e.state) (hst : s0 = e.state.toNat) (hsN : s0 < 3 * (grG f.g).N) (hb0 : b0 = (e.worth.cost, e.worth.cells)) {m : Nat} {al : Int} (hm : m < (grG f.g).N) (hal : al = 1 ∨ al = 2 ∨ al = 3) (hb : -1 ≤ b0.1 ∧ b0.1 ≤ 1000000000 ∧ 0 ≤ b0.2 ∧ b0.2 ≤ 1000000)
    {j : Nat} (hj : j < 3) {next : List R7Entry → Prop} {again : List R7Entry → Int → Prop} (hI : SpI f S s0 b0 best dn C (gE (grC f.g f.c) s0 m al j ++ R) l) (h : ∀ l', SpI f S s0 b0 best dn C R l' → again l' ((j + 1 : Nat) : Int)) :
    M_field_spread_L2 f e (cellN f.g (s0 / 3)) (cellN f.g m) next al again l (j : Int) := by
  have hN := hf.g.N
  have hmin := cellN_in hf.g.sz hm
  have ej : w64 ((j : Int) + 1) = ((j + 1 : Nat) : Int) := by rw [w64_id] <;> omega
  have elast : e.state.tmod 3 = ((s0 % 3 : Nat) : Int) := by rw [Int.tmod_eq_emod_of_nonneg hs0]; omega
  have hgf := goodF_of hf.g hf.c
  have hv := hf.c.via
  have skip : SpI f S s0 b0 best dn C R l → M_field_spread_k3 f e (cellN f.g (s0 / 3)) (cellN f.g m) al l (j : Int) again true := fun hI2 => by
    unfold M_field_spread_k3
    simp only [cnd_true]; rw [ej]; exact h l hI2
  have go : ∀ k : Int, k = (stepC f.c ((grG f.g).Z (s0 / 3) : Int) (j : Int) al).1 → SpI f S s0 b0 best dn C ((3 * m + j, k) :: R) l → M_field_spread_k3 f e (cellN f.g (s0 / 3)) (cellN f.g m) al l (j : Int) again false := fun k hk hI2 => by
    unfold M_field_spread_k3
    simp only [cnd_false]
    refine S_ref_stepCost ?_
    show M_field_at _ _ _
    rw [show (stepC f.c (cellN f.g (s0 / 3)).Layer (j : Int) al).1 = k from hk.symm]
    refine S_field_at hf.g.sz hmin ?_
    rw [numN_cellN]
    have hk2 := stepC_le hf.c ((grG f.g).Z (s0 / 3) : Int) (j : Int) al
    rw [← hk] at hk2
    rw [hb0] at hb
    simp only at hb
    rw [show w64 (e.worth.cost + k) = b0.1 + k by rw [hb0, w64_id] <;> (try simp only) <;> omega, show w64 (e.worth.cells + 1) = b0.2 + 1 by rw [hb0, w64_id] <;> (try simp only) <;> omega,
      show w64 ((w64 (3 * (m : Int))) + (j : Int)) = ((3 * m + j : Nat) : Int) by rw [w64_id (n := 3 * (m : Int)) (by omega) (by omega), w64_id] <;> omega]
    refine SpI.push hf hI2 (fun l' hI' => ?_)
    rw [ej]; exact h l' hI'
  unfold M_field_spread_L2
  rw [decide_eq_true (show (j : Int) < 3 by omega)]
  simp only [cnd_true]
  rw [elast]
  unfold gE at hI
  by_cases ha : al = 3
  · subst ha
    simp only [beq_self_eq_true, cnd_true]
    by_cases hjl : j = s0 % 3
    · rw [if_neg (by omega)] at hI
      rw [show ((j : Int) != ((s0 % 3 : Nat) : Int)) = false by rw [hjl]; simp]
      simp only [cnd_false]
      rw [show ((3 : Int) != 3) = false by decide]
      simp only [cnd_false]
      refine go f.c.Via (by unfold stepC; rw [if_pos rfl]) ?_
      show SpI f S s0 b0 best dn C ((3 * m + j, (grC f.g f.c).via) :: R) l
      simpa using hI
    · rw [if_pos (.inl ⟨rfl, hjl⟩)] at hI
      rw [show ((j : Int) != ((s0 % 3 : Nat) : Int)) = true by simp; omega]
      simp only [cnd_true]
      exact skip (by simpa using hI)
  · rw [show (al == 3) = false by simpa using ha, show (al != 3) = true by simpa using ha]
    simp only [cnd_false, cnd_true]
    by_cases hlast : al = ((s0 % 3 : Nat) : Int)
    · rw [if_neg (by omega), if_neg ha] at hI
      rw [show (al != ((s0 % 3 : Nat) : Int)) = false by rw [hlast]; simp]
      refine go _ (by rw [show ((grG f.g).Z (s0 / 3)) = (grOf ⟨f.g, f.c, noOf f.g⟩).Z (s0 / 3) from rfl, stepC_gr hgf ha]) ?_
      show SpI f S s0 b0 best dn C ((3 * m + j, (grC f.g f.c).base (s0 / 3) al + (grC f.g f.c).tn (j : Int) al) :: R) l
      simpa using hI
    · rw [if_pos (.inr ⟨ha, hlast⟩)] at hI
      rw [show (al != ((s0 % 3 : Nat) : Int)) = true by simpa using hlast]
      exact skip (by simpa using hI)
theorem S_spread (hf : FOk f) {e : R7Entry} (hs0 : 0 ≤ e.state) (hsN : e.state.toNat < 3 * (grG f.g).N) (hb : -1 ≤ e.worth.cost ∧ e.worth.cost ≤ 1000000000 ∧ 0 ≤ e.worth.cells ∧ e.worth.cells ≤ 1000000)
    (hI : SpI f S e.state.toNat (e.worth.cost, e.worth.cells) best dn C ((grC f.g f.c).E true e.state.toNat) l) {Q : R7Heap → Prop} (h : ∀ l', SpI f S e.state.toNat (e.worth.cost, e.worth.cells) best dn C [] l' → Q ⟨l'⟩) : M_field_spread f ⟨l⟩ e Q := by
  have hN := hf.g.N
  obtain ⟨s0, hst⟩ : ∃ s0, s0 = e.state.toNat := ⟨_, rfl⟩
  rw [← hst] at hI h hsN
  have hn : s0 / 3 < (grG f.g).N := by omega
  unfold M_field_spread
  rw [show w64 (e.state.tdiv 3) = ((s0 / 3 : Nat) : Int) by rw [Int.tdiv_eq_ediv_of_nonneg hs0, w64_id] <;> omega]
  refine S_field_cell hf.g.sz hn ?_
  refine S_neighbours hf hn ?_
  unfold Gr.E at hI
  have hmem : ∀ q ∈ (grC f.g f.c).nbrs (s0 / 3), (grG f.g).Nb (s0 / 3) q.1 q.2 := fun q hq => ((grC f.g f.c).mem_nbrs (n := s0 / 3) (m := q.1) (al := q.2) hn).1 hq |>.1
  generalize (grC f.g f.c).nbrs (s0 / 3) = nb at hI hmem
  -- one neighbour after the other
  have loop : ∀ (nb : List (Nat × Int)) (k : Nat) (l : List R7Entry), (∀ q ∈ nb, (grG f.g).Nb (s0 / 3) q.1 q.2) → SpI f S s0 (e.worth.cost, e.worth.cells) best dn C (nb.flatMap ((grC f.g f.c).el true s0)) l →
      forIn' (fun k x (s : List R7Entry) next => M_field_spread_L1 f e (cellN f.g (s0 / 3)) k x s (fun l2 => next l2)) (fun (s : List R7Entry) => (fun (l2 : List R7Entry) => Q (⟨l2⟩ : R7Heap)) s) (nb.map (fun e => cellN f.g e.1)) k l := by
    intro nb
    induction nb with
    | nil => intro k l _ hI; exact h l hI
    | cons q r ih =>
      intro k l hmem hI
      obtain ⟨m, al⟩ := q
      have hnb := hmem (m, al) List.mem_cons_self
      have hm : m < (grG f.g).N := hnb.2.1
      have hal := Gr.Nb.ax hnb
      show M_field_spread_L1 f e (cellN f.g (s0 / 3)) k (cellN f.g m) l (fun l2 => forIn' _ _ (r.map (fun e => cellN f.g e.1)) (k + 1) l2)
      unfold M_field_spread_L1
      refine S_along hf.g.sz (cellN_in hf.g.sz hm) (cellN_in hf.g.sz hn) ?_
      rw [axC_nb (Gr.Nb.symm _ hnb)]
      rw [List.flatMap_cons, el_gE, List.append_assoc, List.append_assoc] at hI
      have fin : ∀ (again : List R7Entry → Int → Prop) l', SpI f S s0 (e.worth.cost, e.worth.cells) best dn C (r.flatMap ((grC f.g f.c).el true s0)) l' → M_field_spread_L2 f e (cellN f.g (s0 / 3)) (cellN f.g m) (fun l2 => forIn' (fun k x (s : List R7Entry) next => M_field_spread_L1 f e (cellN f.g (s0 / 3)) k x s (fun l2 => next l2)) (fun (s : List R7Entry) => (fun (l2 : List R7Entry) => Q (⟨l2⟩ : R7Heap)) s) (r.map (fun e => cellN f.g e.1)) (k + 1) l2) al again l' 3 := fun again l' hI' => by
        unfold M_field_spread_L2
        rw [show decide ((3 : Int) < 3) = false by decide]
        simp only [cnd_false]
        exact ih (k + 1) l' (fun q hq => hmem q (List.mem_cons_of_mem _ hq)) hI'
      refine ⟨4, ?_⟩
      refine S_spread_L2 (j := 0) hf hs0 hst hsN rfl hm hal hb (by omega) hI (fun l1 hI1 => ?_)
      refine S_spread_L2 (j := 1) hf hs0 hst hsN rfl hm hal hb (by omega) hI1 (fun l2 hI2 => ?_)
      refine S_spread_L2 (j := 2) hf hs0 hst hsN rfl hm hal hb (by omega) hI2 (fun l3 hI3 => ?_)
      exact fin _ l3 hI3
  exact loop nb 0 l hmem hI
end
end Go.Proofs.Ytihjaehkdgdenaa

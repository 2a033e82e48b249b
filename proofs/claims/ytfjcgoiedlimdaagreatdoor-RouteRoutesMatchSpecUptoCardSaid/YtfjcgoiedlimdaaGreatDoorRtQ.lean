/- Chapter texts of ours, as far as the claim needs them. -/
import Derived.Test.YtfjcgoiedlimdaaGreatDoorRtP
import Derived.Test.YtfjcgoiedlimdaaGreatDoorRtR1
namespace Go.Proofs.YtfjcgoiedlimdaaGreatDoor
open Go Go.RowKit
set_option linter.unusedVariables false
set_option linter.unusedSectionVars false
set_option linter.unusedSimpArgs false
section
variable {g : Grid} {c : gy} {n m : Nat}
structure FOk (f : iE) : Prop where
  g : GOk f.g
  c : COk f.c
  blk : f.blocked = kS f.g
variable {f : iE}
theorem sD (hs : Sz f.g) {a : Cell} (ha : inG f.g a = true) {Q : Int → Prop} (h : Q (gq f.g a : Int)) : mJ f a Q := qH hs ha h
theorem IK (hs : Sz f.g) (hn : n < (grG f.g).N) {Q : Cell → Prop} (h : Q (gK f.g n)) : vg f (n : Int) Q := by
  have := HY hs hn h
  unfold lI at this
  unfold vg
  exact this
theorem yI (hf : FOk f) {x : Cell} {cond : Bool} {al : Int} (h1 : inG f.g x = cond) (h2 : cond = true → x = gK f.g m ∧ m < (grG f.g).N) {l2 : List Cell} (hl : l2.length ≤ 6) {k : Nat} {next : List Cell → Prop}
    (hn : next (l2 ++ ((grC f.g f.c).nb1 cond m al).map (fun e => gK f.g e.1))) : jU f k x l2 next := by
  unfold jU
  refine yV hf.g.sz ?_
  rw [h1]
  unfold Gr.nb1 at hn
  refine fB (fun e => ?_) (fun e => ?_)
  · obtain ⟨hx, hm⟩ := h2 e
    have hxi : inG f.g x = true := h1.trans e
    refine sD hf.g.sz hxi ?_
    have hnum : gq f.g x = m := by rw [hx, jh]
    have hget : (kS f.g)[m]? = some ((grC f.g f.c).no m) := (uo hf.g hf.c).get hm
    rw [hnum, hf.blk]
    refine gG hget ?_
    unfold jS
    refine fB (fun e2 => ?_) (fun e2 => ?_)
    · rw [if_pos ⟨e, by simpa using e2⟩] at hn
      refine ⟨uJ (by simp only [List.length_append, List.length_singleton]; omega) (by decide), ?_⟩
      rw [hx]; simpa using hn
    · rw [if_neg (fun hh => by rw [hh.2] at e2; simp at e2)] at hn
      simpa using hn
  · unfold jS
    simp only [gY]
    rw [if_neg (fun hh => by rw [e] at hh; exact absurd hh.1 (by simp))] at hn
    simpa using hn
theorem OY (G : Gr) (b : Bool) (m : Nat) (al : Int) : (G.nb1 b m al).length ≤ 1 := by unfold Gr.nb1; split <;> simp
theorem DJ (hf : FOk f) (hn : n < (grG f.g).N) {Q : List Cell → Prop} (h : Q (((grC f.g f.c).zV n).map (fun e => gK f.g e.1))) : lg f (gK f.g n) Q := by
  have hs := hf.g.sz
  have hx := (grG f.g).NS hn
  have hy := (grG f.g).NC hn
  have hz := (grG f.g).Ny hn
  have hw := Oh hs; have hh := NU hs; have hl := PK hs
  have hW := hs.W; have hH := hs.H; have hL := hs.L
  have hnum := (grG f.g).zY n
  have key : ∀ (m : Nat) (x y z : Int), (0 ≤ x ∧ x < f.g.W) → (0 ≤ y ∧ y < f.g.H) → (0 ≤ z ∧ z < f.g.Layers) → m = (grG f.g).num x.toNat y.toNat z.toNat → (⟨x, y, z⟩ : Cell) = gK f.g m ∧ m < (grG f.g).N := fun m x y z h1 h2 h3 hm => by
    obtain ⟨b1, b2, b3, b4⟩ := (grG f.g).yQ (m := m) hn (x := x.toNat) (y := y.toNat) (z := z.toNat) (by omega) (by omega) (by omega) hm
    refine ⟨?_, b1⟩
    unfold gK; rw [b2, b3, b4]
    simp only [Cell.mk.injEq]; omega
  unfold lg
  have e1 : w64 ((gK f.g n).Layer - 1) = ((grG f.g).Z n : Int) - 1 := by unfold gK; simp only; exact fO (by omega) (by omega)
  have e2 : w64 ((gK f.g n).Y - 1) = ((grG f.g).Y n : Int) - 1 := by unfold gK; simp only; exact fO (by omega) (by omega)
  have e3 : w64 ((gK f.g n).X - 1) = ((grG f.g).X n : Int) - 1 := by unfold gK; simp only; exact fO (by omega) (by omega)
  have e4 : w64 ((gK f.g n).X + 1) = ((grG f.g).X n : Int) + 1 := by unfold gK; simp only; exact fO (by omega) (by omega)
  have e5 : w64 ((gK f.g n).Y + 1) = ((grG f.g).Y n : Int) + 1 := by unfold gK; simp only; exact fO (by omega) (by omega)
  have e6 : w64 ((gK f.g n).Layer + 1) = ((grG f.g).Z n : Int) + 1 := by unfold gK; simp only; exact fO (by omega) (by omega)
  rw [e1, e2, e3, e4, e5, e6]
  have cX : (gK f.g n).X = ((grG f.g).X n : Int) := rfl
  have cY : (gK f.g n).Y = ((grG f.g).Y n : Int) := rfl
  have cZ : (gK f.g n).Layer = ((grG f.g).Z n : Int) := rfl
  rw [cX, cY, cZ]
  have dec : ∀ (x y z : Int) (p : Prop) [Decidable p], (((0 ≤ x ∧ x < f.g.W) ∧ (0 ≤ y ∧ y < f.g.H) ∧ 0 ≤ z ∧ z < f.g.Layers) ↔ p) → inG f.g ⟨x, y, z⟩ = decide p := fun x y z p _ hp => by
    rw [Bool.eq_iff_iff, decide_eq_true_eq, ← hp]; exact tu
  have l1 := fun b m al => OY (grC f.g f.c) b m al
  unfold Gr.zV at h
  simp only [forIn']
  refine yI hf (m := n - (grG f.g).W * (grG f.g).H) (al := 3) (dec _ _ _ (0 < (grG f.g).Z n) (by omega)) (fun e => key _ _ _ _ (by omega) (by omega) (by simp at e; omega) ?_) (by simp) ?_
  · have e' : 0 < (grG f.g).Z n := by simpa using e
    obtain ⟨k, hk⟩ : ∃ k, (grG f.g).Z n = k + 1 := ⟨(grG f.g).Z n - 1, by omega⟩
    rw [show (((grG f.g).Z n : Int) - 1).toNat = k by omega]
    simp only [Int.toNat_natCast]
    rw [hk, Gr.EG] at hnum; omega
  refine yI hf (m := n - (grG f.g).W) (al := 2) (dec _ _ _ (0 < (grG f.g).Y n) (by omega)) (fun e => key _ _ _ _ (by omega) (by simp at e; omega) (by omega) ?_) (by have := l1 (decide (0 < (grG f.g).Z n)) (n - (grG f.g).W * (grG f.g).H) 3; simp only [List.length_append, List.length_map, List.length_nil]; omega) ?_
  · have e' : 0 < (grG f.g).Y n := by simpa using e
    obtain ⟨k, hk⟩ : ∃ k, (grG f.g).Y n = k + 1 := ⟨(grG f.g).Y n - 1, by omega⟩
    rw [show (((grG f.g).Y n : Int) - 1).toNat = k by omega]
    simp only [Int.toNat_natCast]
    rw [hk, Gr.EN] at hnum; omega
  refine yI hf (m := n - 1) (al := 1) (dec _ _ _ (0 < (grG f.g).X n) (by omega)) (fun e => key _ _ _ _ (by simp at e; omega) (by omega) (by omega) ?_) (by have := l1 (decide (0 < (grG f.g).Z n)) (n - (grG f.g).W * (grG f.g).H) 3; have := l1 (decide (0 < (grG f.g).Y n)) (n - (grG f.g).W) 2; simp only [List.length_append, List.length_map, List.length_nil]; omega) ?_
  · have e' : 0 < (grG f.g).X n := by simpa using e
    obtain ⟨k, hk⟩ : ∃ k, (grG f.g).X n = k + 1 := ⟨(grG f.g).X n - 1, by omega⟩
    rw [show (((grG f.g).X n : Int) - 1).toNat = k by omega]
    simp only [Int.toNat_natCast]
    rw [hk, Gr.ED] at hnum; omega
  refine yI hf (m := n + 1) (al := 1) (dec _ _ _ ((grG f.g).X n + 1 < (grG f.g).W) (by omega)) (fun e => key _ _ _ _ (by simp at e; omega) (by omega) (by omega) ?_) (by have := l1 (decide (0 < (grG f.g).Z n)) (n - (grG f.g).W * (grG f.g).H) 3; have := l1 (decide (0 < (grG f.g).Y n)) (n - (grG f.g).W) 2; have := l1 (decide (0 < (grG f.g).X n)) (n - 1) 1; simp only [List.length_append, List.length_map, List.length_nil]; omega) ?_
  · rw [show (((grG f.g).X n : Int) + 1).toNat = (grG f.g).X n + 1 by omega]
    simp only [Int.toNat_natCast]
    rw [Gr.ED, hnum]
  refine yI hf (m := n + (grG f.g).W) (al := 2) (dec _ _ _ ((grG f.g).Y n + 1 < (grG f.g).H) (by omega)) (fun e => key _ _ _ _ (by omega) (by simp at e; omega) (by omega) ?_) (by have := l1 (decide (0 < (grG f.g).Z n)) (n - (grG f.g).W * (grG f.g).H) 3; have := l1 (decide (0 < (grG f.g).Y n)) (n - (grG f.g).W) 2; have := l1 (decide (0 < (grG f.g).X n)) (n - 1) 1; have := l1 (decide ((grG f.g).X n + 1 < (grG f.g).W)) (n + 1) 1; simp only [List.length_append, List.length_map, List.length_nil]; omega) ?_
  · rw [show (((grG f.g).Y n : Int) + 1).toNat = (grG f.g).Y n + 1 by omega]
    simp only [Int.toNat_natCast]
    rw [Gr.EN, hnum]
  refine yI hf (m := n + (grG f.g).W * (grG f.g).H) (al := 3) (dec _ _ _ ((grG f.g).Z n + 1 < (grG f.g).L) (by omega)) (fun e => key _ _ _ _ (by omega) (by omega) (by simp at e; omega) ?_) (by have := l1 (decide (0 < (grG f.g).Z n)) (n - (grG f.g).W * (grG f.g).H) 3; have := l1 (decide (0 < (grG f.g).Y n)) (n - (grG f.g).W) 2; have := l1 (decide (0 < (grG f.g).X n)) (n - 1) 1; have := l1 (decide ((grG f.g).X n + 1 < (grG f.g).W)) (n + 1) 1; have := l1 (decide ((grG f.g).Y n + 1 < (grG f.g).H)) (n + (grG f.g).W) 2; simp only [List.length_append, List.length_map, List.length_nil]; omega) ?_
  · rw [show (((grG f.g).Z n : Int) + 1).toNat = (grG f.g).Z n + 1 by omega]
    simp only [Int.toNat_natCast]
    rw [Gr.EG, hnum]
  simp only [List.map_append, List.nil_append, List.append_assoc] at h ⊢
  exact h
end
def SpI (f : iE) (S : List Nat) (s0 : Nat) (b0 : Int × Int) (best : List (Int × Int)) (dn : List Bool) (C : Nat) (R : List (Nat × Int)) (l : List eY) : Prop :=
  (∃ L, DR ((grC f.g f.c).E true) S (3 * (grG f.g).N) s0 b0 L R best dn (l.map pr7)) ∧ vM l ∧ (∀ y ∈ l, 0 ≤ y.state) ∧ l.length + R.length + 18 * (3 * (grG f.g).N - dn.count true) ≤ C ∧ C ≤ 4000000
theorem KP {E : Nat → List (Nat × Int)} {S : List Nat} {N : Nat} {A : Nat → Prop} {best : List (Int × Int)} {dn : List Bool} {l : List eY} (hN : N ≤ 120000) (h : BG E S N A best dn (l.map pr7)) : ∀ y ∈ l, okE y := fun y hy => by
  obtain ⟨_, c, n, _, e, _, hn⟩ := h.ent (pr7 y) (List.mem_map.2 ⟨y, hy, rfl⟩)
  have hc : dn.count true ≤ dn.length := List.count_le_length
  rw [h.ld] at hc
  have hkB : kB = 1048576 := rfl
  simp only [pr7, Prod.mk.injEq] at e
  unfold okE; omega
section
variable {f : iE} {S : List Nat} {s0 : Nat} {b0 : Int × Int} {best : List (Int × Int)} {dn : List Bool} {C : Nat} {R : List (Nat × Int)} {l : List eY}
theorem SpI.push (hf : FOk f) {t : Nat} {k : Int} (hI : SpI f S s0 b0 best dn C ((t, k) :: R) l) {Q : iK → Prop} (h : ∀ l', SpI f S s0 b0 best dn C R l' → Q ⟨l'⟩) : qw ⟨l⟩ ⟨⟨b0.1 + k, b0.2 + 1⟩, (t : Int)⟩ Q := by
  obtain ⟨⟨L, hr⟩, hh, hs, hc, hC⟩ := hI
  have hN := hf.g.N
  have hp := hr.push ((uo hf.g hf.c).ok.good true)
  have hok := KP (by omega) hr.base
  simp only [List.length_cons] at hc
  have hok2 : okE ⟨⟨b0.1 + k, b0.2 + 1⟩, (t : Int)⟩ := by
    refine KP (l := ⟨⟨b0.1 + k, b0.2 + 1⟩, (t : Int)⟩ :: l) (N := 3 * (grG f.g).N) (by omega) (E := (grC f.g f.c).E true) (S := S) (A := (· = s0)) (best := best) (dn := dn) ?_ _ List.mem_cons_self
    simpa [pr7] using hp.base
  refine LX (by omega) hok hok2 hh (fun l' hpp hh' => h l' ⟨⟨_, hp.perm ?_⟩, hh', fun y hy => ?_, ?_, hC⟩)
  · have := hpp.map pr7
    simp only [List.map_cons, pr7, Int.toNat_natCast] at this
    exact this
  · rcases List.mem_cons.1 (hpp.mem_iff.1 hy) with hy | hy
    · subst hy; simp only; omega
    · exact hs y hy
  · rw [hpp.length_eq]; simp only [List.length_cons]; omega
def gE (G : Gr) (s : Nat) (m : Nat) (al : Int) (j : Nat) : List (Nat × Int) :=
  if (al = 3 ∧ j ≠ s % 3) ∨ (al ≠ 3 ∧ al ≠ ((s % 3 : Nat) : Int)) then [] else [(3 * m + j, if al = 3 then G.via else G.base (s / 3) al + G.tn (j : Int) al)]
theorem Qw (G : Gr) (s m : Nat) (al : Int) : G.el true s (m, al) = gE G s m al 0 ++ (gE G s m al 1 ++ gE G s m al 2) := by
  unfold Gr.el gE
  simp only
  have h3 : s % 3 = 0 ∨ s % 3 = 1 ∨ s % 3 = 2 := by omega
  by_cases ha : al = 3
  · subst ha
    rcases h3 with h3 | h3 | h3 <;> rw [h3] <;> simp
  · by_cases hb : al = ((s % 3 : Nat) : Int)
    · have cc : ∀ j, ¬((al = 3 ∧ j ≠ s % 3) ∨ (al ≠ 3 ∧ al ≠ ((s % 3 : Nat) : Int))) := fun j => by omega
      rw [if_neg ha, if_pos trivial, if_pos hb, if_neg (cc 0), if_neg (cc 1), if_neg (cc 2)]
      simp only [if_neg ha]
      simp
    · rw [if_neg ha, if_pos trivial, if_neg hb, if_pos (.inr ⟨ha, hb⟩), if_pos (.inr ⟨ha, hb⟩), if_pos (.inr ⟨ha, hb⟩)]
      simp
theorem Au (hf : FOk f) {e : eY} (hs0 : 0 ≤ e.state) (hst : s0 = e.state.toNat) (hsN : s0 < 3 * (grG f.g).N) (hb0 : b0 = (e.worth.cost, e.worth.cells)) {m : Nat} {al : Int} (hm : m < (grG f.g).N) (hal : al = 1 ∨ al = 2 ∨ al = 3) (hb : -1 ≤ b0.1 ∧ b0.1 ≤ 1000000000 ∧ 0 ≤ b0.2 ∧ b0.2 ≤ 1000000)
    {j : Nat} (hj : j < 3) {next : List eY → Prop} {again : List eY → Int → Prop} (hI : SpI f S s0 b0 best dn C (gE (grC f.g f.c) s0 m al j ++ R) l) (h : ∀ l', SpI f S s0 b0 best dn C R l' → again l' ((j + 1 : Nat) : Int)) :
    iT f e (gK f.g (s0 / 3)) (gK f.g m) next al again l (j : Int) := by
  have hN := hf.g.N
  have hmin := qP hf.g.sz hm
  have ej : w64 ((j : Int) + 1) = ((j + 1 : Nat) : Int) := by rw [fO] <;> omega
  have elast : e.state.tmod 3 = ((s0 % 3 : Nat) : Int) := by rw [Int.tmod_eq_emod_of_nonneg hs0]; omega
  have hgf := uo hf.g hf.c
  have hv := hf.c.via
  have skip : SpI f S s0 b0 best dn C R l → iI f e (gK f.g (s0 / 3)) (gK f.g m) al l (j : Int) again true := fun hI2 => by
    unfold iI
    simp only [iJ]; rw [ej]; exact h l hI2
  have go : ∀ k : Int, k = (uF f.c ((grG f.g).Z (s0 / 3) : Int) (j : Int) al).1 → SpI f S s0 b0 best dn C ((3 * m + j, k) :: R) l → iI f e (gK f.g (s0 / 3)) (gK f.g m) al l (j : Int) again false := fun k hk hI2 => by
    unfold iI
    simp only [gY]
    refine Ar ?_
    show mJ _ _ _
    rw [show (uF f.c (gK f.g (s0 / 3)).Layer (j : Int) al).1 = k from hk.symm]
    refine sD hf.g.sz hmin ?_
    rw [jh]
    have hk2 := Oe hf.c ((grG f.g).Z (s0 / 3) : Int) (j : Int) al
    rw [← hk] at hk2
    rw [hb0] at hb
    simp only at hb
    rw [show w64 (e.worth.cost + k) = b0.1 + k by rw [hb0, fO] <;> (try simp only) <;> omega, show w64 (e.worth.cells + 1) = b0.2 + 1 by rw [hb0, fO] <;> (try simp only) <;> omega,
      show w64 ((w64 (3 * (m : Int))) + (j : Int)) = ((3 * m + j : Nat) : Int) by rw [fO (n := 3 * (m : Int)) (by omega) (by omega), fO] <;> omega]
    refine SpI.push hf hI2 (fun l' hI' => ?_)
    rw [ej]; exact h l' hI'
  unfold iT
  rw [decide_eq_true (show (j : Int) < 3 by omega)]
  simp only [iJ]
  rw [elast]
  unfold gE at hI
  by_cases ha : al = 3
  · subst ha
    simp only [beq_self_eq_true, iJ]
    by_cases hjl : j = s0 % 3
    · rw [if_neg (by omega)] at hI
      rw [show ((j : Int) != ((s0 % 3 : Nat) : Int)) = false by rw [hjl]; simp]
      simp only [gY]
      rw [show ((3 : Int) != 3) = false by decide]
      simp only [gY]
      refine go f.c.Via (by unfold uF; rw [if_pos rfl]) ?_
      show SpI f S s0 b0 best dn C ((3 * m + j, (grC f.g f.c).via) :: R) l
      simpa using hI
    · rw [if_pos (.inl ⟨rfl, hjl⟩)] at hI
      rw [show ((j : Int) != ((s0 % 3 : Nat) : Int)) = true by simp; omega]
      simp only [iJ]
      exact skip (by simpa using hI)
  · rw [show (al == 3) = false by simpa using ha, show (al != 3) = true by simpa using ha]
    simp only [gY, iJ]
    by_cases hlast : al = ((s0 % 3 : Nat) : Int)
    · rw [if_neg (by omega), if_neg ha] at hI
      rw [show (al != ((s0 % 3 : Nat) : Int)) = false by rw [hlast]; simp]
      refine go _ (by rw [show ((grG f.g).Z (s0 / 3)) = (gu ⟨f.g, f.c, kS f.g⟩).Z (s0 / 3) from rfl, zT hgf ha]) ?_
      show SpI f S s0 b0 best dn C ((3 * m + j, (grC f.g f.c).base (s0 / 3) al + (grC f.g f.c).tn (j : Int) al) :: R) l
      simpa using hI
    · rw [if_pos (.inr ⟨ha, hlast⟩)] at hI
      rw [show (al != ((s0 % 3 : Nat) : Int)) = true by simpa using hlast]
      exact skip (by simpa using hI)
theorem Oz (hf : FOk f) {e : eY} (hs0 : 0 ≤ e.state) (hsN : e.state.toNat < 3 * (grG f.g).N) (hb : -1 ≤ e.worth.cost ∧ e.worth.cost ≤ 1000000000 ∧ 0 ≤ e.worth.cells ∧ e.worth.cells ≤ 1000000)
    (hI : SpI f S e.state.toNat (e.worth.cost, e.worth.cells) best dn C ((grC f.g f.c).E true e.state.toNat) l) {Q : iK → Prop} (h : ∀ l', SpI f S e.state.toNat (e.worth.cost, e.worth.cells) best dn C [] l' → Q ⟨l'⟩) : rZ f ⟨l⟩ e Q := by
  have hN := hf.g.N
  obtain ⟨s0, hst⟩ : ∃ s0, s0 = e.state.toNat := ⟨_, rfl⟩
  rw [← hst] at hI h hsN
  have hn : s0 / 3 < (grG f.g).N := by omega
  unfold rZ
  rw [show w64 (e.state.tdiv 3) = ((s0 / 3 : Nat) : Int) by rw [Int.tdiv_eq_ediv_of_nonneg hs0, fO] <;> omega]
  refine IK hf.g.sz hn ?_
  refine DJ hf hn ?_
  unfold Gr.E at hI
  have hmem : ∀ q ∈ (grC f.g f.c).zV (s0 / 3), (grG f.g).Nb (s0 / 3) q.1 q.2 := fun q hq => ((grC f.g f.c).zS (n := s0 / 3) (m := q.1) (al := q.2) hn).1 hq |>.1
  generalize (grC f.g f.c).zV (s0 / 3) = nb at hI hmem
  -- one neighbour after the other
  have loop : ∀ (nb : List (Nat × Int)) (k : Nat) (l : List eY), (∀ q ∈ nb, (grG f.g).Nb (s0 / 3) q.1 q.2) → SpI f S s0 (e.worth.cost, e.worth.cells) best dn C (nb.flatMap ((grC f.g f.c).el true s0)) l →
      forIn' (fun k x (s : List eY) next => iV f e (gK f.g (s0 / 3)) k x s (fun l2 => next l2)) (fun (s : List eY) => (fun (l2 : List eY) => Q (⟨l2⟩ : iK)) s) (nb.map (fun e => gK f.g e.1)) k l := by
    intro nb
    induction nb with
    | nil => intro k l _ hI; exact h l hI
    | cons q r ih =>
      intro k l hmem hI
      obtain ⟨m, al⟩ := q
      have hnb := hmem (m, al) List.mem_cons_self
      have hm : m < (grG f.g).N := hnb.2.1
      have hal := Gr.Nb.ax hnb
      show iV f e (gK f.g (s0 / 3)) k (gK f.g m) l (fun l2 => forIn' _ _ (r.map (fun e => gK f.g e.1)) (k + 1) l2)
      unfold iV
      refine LW hf.g.sz (qP hf.g.sz hm) (qP hf.g.sz hn) ?_
      rw [Ja (Gr.Nb.symm _ hnb)]
      rw [List.flatMap_cons, Qw, List.append_assoc, List.append_assoc] at hI
      have fin : ∀ (again : List eY → Int → Prop) l', SpI f S s0 (e.worth.cost, e.worth.cells) best dn C (r.flatMap ((grC f.g f.c).el true s0)) l' → iT f e (gK f.g (s0 / 3)) (gK f.g m) (fun l2 => forIn' (fun k x (s : List eY) next => iV f e (gK f.g (s0 / 3)) k x s (fun l2 => next l2)) (fun (s : List eY) => (fun (l2 : List eY) => Q (⟨l2⟩ : iK)) s) (r.map (fun e => gK f.g e.1)) (k + 1) l2) al again l' 3 := fun again l' hI' => by
        unfold iT
        rw [show decide ((3 : Int) < 3) = false by decide]
        simp only [gY]
        exact ih (k + 1) l' (fun q hq => hmem q (List.mem_cons_of_mem _ hq)) hI'
      refine ⟨4, ?_⟩
      refine Au (j := 0) hf hs0 hst hsN rfl hm hal hb (by omega) hI (fun l1 hI1 => ?_)
      refine Au (j := 1) hf hs0 hst hsN rfl hm hal hb (by omega) hI1 (fun l2 hI2 => ?_)
      refine Au (j := 2) hf hs0 hst hsN rfl hm hal hb (by omega) hI2 (fun l3 hI3 => ?_)
      exact fin _ l3 hI3
  exact loop nb 0 l hmem hI
end
end Go.Proofs.YtfjcgoiedlimdaaGreatDoor

/- Chapter texts of ours, as far as the claim needs them. -/
import Derived.Test.YtfjcgoiedlimdaaGreatDoorRtC
import Derived.Test.YtfjcgoiedlimdaaGreatDoorRtD
import Derived.Test.YtfjcgoiedlimdaaGreatDoorPaths
namespace Go.Proofs.YtfjcgoiedlimdaaGreatDoor
open Go Go.RowKit
set_option linter.unusedVariables false
set_option linter.unusedSectionVars false
set_option linter.unusedSimpArgs false
def gu (f : eX) : Gr := ⟨f.g.W.toNat, f.g.H.toNat, f.g.Layers.toNat, fun n => f.no.getD n true, f.c.Step, f.c.Via, f.c.Turn, f.c.Against⟩
structure rf (f : eX) : Prop where
  W : 1 ≤ f.g.W ∧ f.g.W ≤ 200
  H : 1 ≤ f.g.H ∧ f.g.H ≤ 200
  L : 1 ≤ f.g.Layers ∧ f.g.Layers ≤ 8
  N : (gu f).N ≤ 40000
  no : f.no.length = (gu f).N
  ok : (gu f).Ok
def pr (y : dW) : Int × Nat := (y.key, y.state.toNat)
section
variable {f : eX}
theorem rf.w (h : rf f) : f.g.W = ((gu f).W : Int) := by have := h.W; simp only [gu]; omega
theorem rf.h (h : rf f) : f.g.H = ((gu f).H : Int) := by have := h.H; simp only [gu]; omega
theorem rf.l (h : rf f) : f.g.Layers = ((gu f).L : Int) := by have := h.L; simp only [gu]; omega
theorem rf.wh (h : rf f) : (gu f).W * (gu f).H ≤ 40000 := by
  have h1 := h.N
  have h2 : 1 ≤ (gu f).L := by have := h.L; simp only [gu]; omega
  unfold Gr.N at h1
  exact Nat.le_trans (Nat.le_mul_of_pos_right _ h2) h1
theorem rf.get (h : rf f) {n : Nat} (hn : n < (gu f).N) : f.no[n]? = some ((gu f).no n) := by
  have h1 : n < f.no.length := by rw [h.no]; exact hn
  show f.no[n]? = some (f.no.getD n true)
  rw [List.getD_eq_getElem?_getD, List.getElem?_eq_getElem h1]; rfl
theorem yj {n : Nat} (h : n ≤ 4000000) : w64 (n : Int) = (n : Int) := fO (by omega) (by omega)
theorem Fj (c : gy) (layer last along : Int) {Q : Int → Int → Prop} (h : Q (uF c layer last along).1 (uF c layer last along).2) : jL c layer last along Q := by
  unfold uF at h
  unfold jL kP kN kM
  refine fB (fun e => ?_) (fun e => ?_)
  · simp at e; rw [if_pos e] at h; exact h
  · have e' : ¬ along = 3 := by simpa using e
    rw [if_neg e'] at h
    simp only at h
    refine fB (fun e2 => ?_) (fun e2 => ?_)
    · have e2' : (decide (layer.tmod 2 = 0) == decide (along = 2)) = true := e2
      rw [if_pos e2'] at h
      refine fB (fun e3 => fB (fun e4 => ?_) (fun e4 => ?_)) (fun e3 => ?_)
      · rw [if_pos ⟨by simpa using e3, by simpa using e4⟩] at h; exact h
      · rw [if_neg (fun hh => hh.2 (by simpa using e4))] at h; exact h
      · simp only [gY]; rw [if_neg (fun hh => hh.1 (by simpa using e3))] at h; exact h
    · have e2' : ¬ (decide (layer.tmod 2 = 0) == decide (along = 2)) = true := fun hh => by rw [show ((layer.tmod 2 == 0) == (along == 2)) = true from hh] at e2; cases e2
      rw [if_neg e2'] at h
      refine fB (fun e3 => fB (fun e4 => ?_) (fun e4 => ?_)) (fun e3 => ?_)
      · rw [if_pos ⟨by simpa using e3, by simpa using e4⟩] at h; exact h
      · rw [if_neg (fun hh => hh.2 (by simpa using e4))] at h; exact h
      · simp only [gY]; rw [if_neg (fun hh => hh.1 (by simpa using e3))] at h; exact h
theorem zT (h : rf f) {n : Nat} {last al : Int} (hal : al ≠ 3) : uF f.c ((gu f).Z n : Int) last al = ((gu f).base n al + (gu f).tn last al, al) := by
  have h1 := h.ok.step
  have h2 := h.ok.turn
  have h3 := h.ok.agn
  simp only [gu] at h1 h2 h3
  have hz : (((gu f).Z n : Int).tmod 2 = 0) = ((gu f).Z n % 2 = 0) := by
    apply propext; rw [Int.tmod_eq_emod_of_nonneg (by omega)]; omega
  unfold uF Gr.base Gr.tn
  rw [if_neg hal, if_neg hal]
  simp only [hz]
  have e1 : w64 (f.c.Step + f.c.Against) = f.c.Step + f.c.Against := fO (by omega) (by omega)
  have e2 : w64 (f.c.Step + f.c.Against + f.c.Turn) = f.c.Step + f.c.Against + f.c.Turn := fO (by omega) (by omega)
  have e3 : w64 (f.c.Step + f.c.Turn) = f.c.Step + f.c.Turn := fO (by omega) (by omega)
  have g1 : (gu f).step = f.c.Step := rfl
  have g2 : (gu f).agn = f.c.Against := rfl
  have g3 : (gu f).turn = f.c.Turn := rfl
  rw [g1, g2, g3]
  by_cases c1 : (decide ((gu f).Z n % 2 = 0) == decide (al = 2)) = true <;> by_cases c2 : last ≠ 0 ∧ last ≠ al
  · rw [if_pos c1, if_pos c2, if_pos c1, if_pos c2, e1, e2]
  · rw [if_pos c1, if_neg c2, if_pos c1, if_neg c2, e1, Int.add_zero]
  · rw [if_neg c1, if_pos c2, if_neg c1, if_pos c2, e3, Int.add_zero]
  · rw [if_neg c1, if_neg c2, if_neg c1, if_neg c2, Int.add_zero, Int.add_zero]
end
def StI (f : eX) (back : Bool) (S : List Nat) (D : List Nat) (C : Nat) (x : dW) (R : List (Nat × Int)) (out : List Int) (q : List dW) : Prop :=
  (∃ L, RInv ((gu f).E back) S (3 * (gu f).N) 3000 x.state.toNat x.key L R D out (q.map pr)) ∧ xR q ∧ (∀ y ∈ q, 0 ≤ y.state) ∧ q.length + R.length + 18 * (3 * (gu f).N - D.length) ≤ C ∧ C ≤ 4000000
section
variable {f : eX} {back : Bool} {S D : List Nat} {C : Nat} {x : dW} {R : List (Nat × Int)} {out : List Int} {q : List dW} {Q : dW → List Int → List dW → Prop}
theorem AU (hf : rf f) {t : Nat} {k : Int} (hI : StI f back S D C x ((t, k) :: R) out q) (h : ∀ out' q', StI f back S D C x R out' q' → Q x out' q') : vX (t : Int) (k * kB + 1) x out q Q := by
  obtain ⟨⟨L, hr⟩, hh, hs, hc, hC⟩ := hI
  have hkB : kB = 1048576 := rfl
  have hE := hf.ok.good back
  have hN := hf.N
  have hlen := hr.base.len
  have hs0 : x.state.toNat < 3 * (gu f).N := by rw [← hlen]; exact (List.getElem?_eq_some_iff.1 hr.at0).1
  have he : (t, k) ∈ (gu f).E back x.state.toNat := by rw [hr.all]; simp
  obtain ⟨ht, hk0, hk1⟩ := (hE _ hs0).2 _ he
  simp only at ht hk0 hk1
  have hb := hr.base.lt (by decide) hr.at0 hr.pos0
  have hp0 := hr.pos0
  have ew : w64 (k * kB + 1 + x.key) = x.key + k * kB + 1 := by rw [hkB] at *; rw [fO] <;> omega
  have hget : out[t]? = some (out[t]'(by omega)) := List.getElem?_eq_getElem (by omega)
  generalize out[t]'(by omega) = d at hget
  unfold vX
  refine gG hget ?_
  have less : d < 0 ∨ x.key + k * kB + 1 < d → oV t (k * kB + 1) x out q Q true := fun hl => by
    unfold oV
    rw [ew]
    simp only [iJ, Int.toNat_natCast]
    refine gG hget ?_
    simp only [List.length_cons] at hc
    refine JL (by omega) hh (fun q' hp hh' => h _ q' ⟨⟨_, (hr.less hE (by decide) hget hl).perm ?_⟩, hh', fun y hy => ?_, ?_, hC⟩)
    · have := hp.map pr
      simp only [List.map_cons, pr, Int.toNat_natCast] at this
      exact this
    · rcases List.mem_cons.1 (hp.mem_iff.1 hy) with hy | hy
      · subst hy; simp only; omega
      · exact hs y hy
    · rw [hp.length_eq]; simp only [List.length_cons]; omega
  have keep : ¬ d < 0 → ¬ x.key + k * kB + 1 < d → oV t (k * kB + 1) x out q Q false := fun h0 h1 => by
    unfold oV
    simp only [gY]
    exact h _ _ ⟨⟨_, hr.keep hget h0 h1⟩, hh, hs, by simp only [List.length_cons] at hc; omega, hC⟩
  refine fB (fun e => ?_) (fun e => ?_)
  · exact less (.inl (by simpa using e))
  · rw [ew]
    have e0 : ¬ d < 0 := by simpa using e
    by_cases h1 : x.key + k * kB + 1 < d
    · rw [decide_eq_true h1]; exact less (.inr h1)
    · rw [decide_eq_false h1]; exact keep e0 h1
theorem NT (hf : rf f) {m : Nat} {al : Int} (hm : m < (gu f).N) (hal : al = 1 ∨ al = 2 ∨ al = 3) {s : Nat} (hs : s = x.state.toNat) (hI : StI f back S D C x ((gu f).el back s (m, al) ++ R) out q) (h : ∀ out' q', StI f back S D C x R out' q' → Q x out' q') :
    oJ (m : Int) al back f ((gu f).Z (s / 3) : Int) ((s % 3 : Nat) : Int) x out q Q := by
  have hN := hf.N
  have hkB : kB = 1048576 := rfl
  have hvia := hf.ok.via
  have hv : (gu f).via = f.c.Via := rfl
  have key : ∀ c : Int, 0 ≤ c → c ≤ 3000 → w64 ((w64 (c * 1048576)) + 1) = c * kB + 1 := fun c h0 h1 => by
    rw [fO (n := c * 1048576) (by omega) (by omega), fO (by omega) (by omega), hkB]
  have num : ∀ j : Nat, j ≤ 3 → w64 ((w64 ((m : Int) * 3)) + (j : Int)) = ((3 * m + j : Nat) : Int) := fun j hj => by
    rw [fO (n := (m : Int) * 3) (by omega) (by omega), fO (by omega) (by omega)]; omega
  have hb := hf.ok.base (s / 3) al
  have ht := fun a => hf.ok.tn a al
  unfold oJ
  unfold Gr.el at hI
  simp only at hI
  cases back with
  | false =>
    refine fB (fun _ => ?_) (fun e => by simp at e)
    refine Fj _ _ _ _ ?_
    by_cases h3 : al = 3
    · rw [if_pos h3] at hI
      subst h3
      unfold uF
      rw [if_pos rfl]
      simp only
      rw [num (s % 3) (by omega), key f.c.Via (by omega) (by omega), ← hv]
      exact AU hf hI h
    · rw [if_neg h3, if_neg (by simp)] at hI
      rw [zT hf h3]
      simp only
      have e1 : al = ((al.toNat : Nat) : Int) := by omega
      have ht2 := ht ((s % 3 : Nat) : Int)
      rw [key _ (by omega) (by omega)]
      rw [e1, num al.toNat (by omega), ← e1]
      exact AU hf hI h
  | true =>
    refine fB (fun e => by simp at e) (fun _ => ?_)
    refine fB (fun e => ?_) (fun e => ?_)
    · have h3 : al = 3 := by simpa using e
      rw [if_pos h3] at hI
      rw [num (s % 3) (by omega), key f.c.Via (by omega) (by omega), ← hv]
      exact AU hf hI h
    · have h3 : ¬ al = 3 := by simpa using e
      rw [if_neg h3, if_pos rfl] at hI
      refine fB (fun e2 => ?_) (fun e2 => ?_)
      · have h4 : al = ((s % 3 : Nat) : Int) := by simpa using e2
        rw [if_pos h4] at hI
        have one : ∀ (j : Nat) (again : List Int → List dW → dW → Int → Prop) (out : List Int) (q : List dW) (R' : List (Nat × Int)), j < 3 → StI f true S D C x ((3 * m + j, (gu f).base (s / 3) al + (gu f).tn (j : Int) al) :: R') out q → (∀ out' q', StI f true S D C x R' out' q' → again out' q' x ((j + 1 : Nat) : Int)) → jG (m : Int) al f ((gu f).Z (s / 3) : Int) Q again out q x (j : Int) := by
          intro j again out q R' hj hI hk
          have tj := ht (j : Int)
          unfold jG
          rw [decide_eq_true (show (j : Int) < 3 by omega)]
          simp only [iJ]
          refine Fj _ _ _ _ ?_
          rw [zT hf h3]
          simp only
          rw [num j (by omega), key _ (by omega) (by omega), show w64 ((j : Int) + 1) = ((j + 1 : Nat) : Int) by rw [fO] <;> omega]
          exact AU hf hI hk
        refine ⟨4, ?_⟩
        refine one 0 _ _ _ _ (by omega) hI (fun out1 q1 hI1 => ?_)
        refine one 1 _ _ _ _ (by omega) hI1 (fun out2 q2 hI2 => ?_)
        refine one 2 _ _ _ _ (by omega) hI2 (fun out3 q3 hI3 => ?_)
        show jG (m : Int) al f ((gu f).Z (s / 3) : Int) Q _ out3 q3 x 3
        unfold jG
        rw [show decide ((3 : Int) < 3) = false by decide]
        simp only [gY]
        exact h _ _ hI3
      · have h4 : ¬ al = ((s % 3 : Nat) : Int) := by simpa using e2
        rw [if_neg h4] at hI
        exact h _ _ hI
theorem PU (hf : rf f) {c : Bool} {mI : Int} {m : Nat} (hm : c = true → mI = (m : Int) ∧ m < (gu f).N) {A B : Prop} {k : Bool → Prop} (hk : ∀ b, k b = cnd b A B)
    (h : if c = true ∧ (gu f).no m = false then A else B) : cnd c (idx f.no mI fun x => k (!x)) (k false) := by
  refine fB (fun e => ?_) (fun e => ?_)
  · obtain ⟨h1, h2⟩ := hm e
    rw [h1]
    refine gG (hf.get h2) ?_
    rw [hk]
    refine fB (fun e2 => ?_) (fun e2 => ?_)
    · rw [if_pos ⟨e, by simpa using e2⟩] at h; exact h
    · rw [if_neg (fun hh => by rw [hh.2] at e2; simp at e2)] at h; exact h
  · rw [hk]; simp only [gY]
    rw [if_neg (fun hh => by rw [e] at hh; exact absurd hh.1 (by simp))] at h; exact h
end
def LG (f : eX) (y1 : Cell) : List jZ := [(⟨w64 ((w64 (-f.g.W)) * f.g.H), 3, decide (y1.Layer > 0)⟩ : jZ), (⟨w64 (-f.g.W), 2, decide (y1.Y > 0)⟩ : jZ), (⟨(-1), 1, decide (y1.X > 0)⟩ : jZ), (⟨1, 1, decide (y1.X < w64 (f.g.W - 1))⟩ : jZ), (⟨f.g.W, 2, decide (y1.Y < w64 (f.g.H - 1))⟩ : jZ), (⟨w64 (f.g.W * f.g.H), 3, decide (y1.Layer < w64 (f.g.Layers - 1))⟩ : jZ)]
def Me (f : eX) (n : Int) {σ : Type} (step : Int → Int → σ → (σ → Prop) → Prop) (Q : σ → Prop) (y1 : Cell) (again : σ → Int → Prop) (s : σ) (i : Int) : Prop :=
  cnd (decide (i < 6)) (idx (LG f y1) i fun x1 => cnd x1.is (idx f.no (w64 (n + x1.by_)) fun x2 => cnd (!x2) (step (w64 (n + x1.by_)) x1.along s (fun s' => again s' (w64 (i + 1)))) (again s (w64 (i + 1)))) (cnd false (step (w64 (n + x1.by_)) x1.along s (fun s' => again s' (w64 (i + 1)))) (again s (w64 (i + 1))))) (Q s)
section
variable {f : eX}
theorem Lp (hf : rf f) {n : Nat} (hn : n < (gu f).N) {σ S : Type} (emb : σ → Int → S) {F : Cell → (S → Prop) → S → Prop} (step : Int → Int → σ → (σ → Prop) → Prop) {Q : σ → Prop}
    (hF : ∀ (y1 : Cell) (X : S → Prop) (s : σ) (i : Int), Me f (n : Int) step Q y1 (fun s i => X (emb s i)) s i → F y1 X (emb s i)) (I : List (Nat × Int) → σ → Prop)
    (hstep : ∀ (m : Nat) (al : Int) R s K, (gu f).Nb n m al → (gu f).no m = false → I ((m, al) :: R) s → (∀ s', I R s' → K s') → step (m : Int) al s K) {s : σ} (hI : I ((gu f).zV n) s) (h : ∀ s', I [] s' → Q s') : lI f.g (n : Int) fun y1 => lp (F y1) (emb s 0) := by
  have hN := hf.N
  have hx := (gu f).NS hn
  have hy := (gu f).NC hn
  have hz := (gu f).Ny hn
  have hW := hf.W
  have hH := hf.H
  have hL := hf.L
  have wh := hf.wh
  have hw := hf.w
  have hh := hf.h
  have hl := hf.l
  have hnum := (gu f).zY n
  have e0 : w64 ((n : Int).tdiv f.g.W) = ((n / (gu f).W : Nat) : Int) := by
    rw [hw, ← Int.ofNat_tdiv]; exact yj (Nat.le_trans (Nat.div_le_self _ _) (by omega))
  have cellX : (n : Int).tmod f.g.W = ((gu f).X n : Int) := by rw [hw, ← Int.ofNat_tmod]; rfl
  have cellY : (w64 ((n : Int).tdiv f.g.W)).tmod f.g.H = ((gu f).Y n : Int) := by rw [e0, hh, ← Int.ofNat_tmod]; rfl
  have cellZ : w64 ((w64 ((n : Int).tdiv f.g.W)).tdiv f.g.H) = ((gu f).Z n : Int) := by
    rw [e0, hh, ← Int.ofNat_tdiv]; exact yj (Nat.le_trans (Nat.div_le_self _ _) (Nat.le_trans (Nat.div_le_self _ _) (by omega)))
  have ewh : w64 (f.g.W * f.g.H) = (((gu f).W * (gu f).H : Nat) : Int) := by rw [hw, hh, ← Int.natCast_mul]; exact fO (by omega) (by omega)
  have enwh : w64 ((w64 (-f.g.W)) * f.g.H) = -(((gu f).W * (gu f).H : Nat) : Int) := by
    rw [fO (n := -f.g.W) (by omega) (by omega), hw, hh, Int.neg_mul, ← Int.natCast_mul]; exact fO (by omega) (by omega)
  have ew1 : w64 (f.g.W - 1) = (gu f).W - 1 := by rw [hw]; exact fO (by omega) (by omega)
  have eh1 : w64 (f.g.H - 1) = (gu f).H - 1 := by rw [hh]; exact fO (by omega) (by omega)
  have el1 : w64 (f.g.Layers - 1) = (gu f).L - 1 := by rw [hl]; exact fO (by omega) (by omega)
  have enw : w64 (-f.g.W) = -((gu f).W : Int) := by rw [hw]; exact fO (by omega) (by omega)
  -- the six of them
  have z0 : 0 < (gu f).Z n → (gu f).W * (gu f).H ≤ n ∧ (gu f).Nb n (n - (gu f).W * (gu f).H) 3 := fun hc => by
    obtain ⟨k, hk⟩ : ∃ k, (gu f).Z n = k + 1 := ⟨(gu f).Z n - 1, by omega⟩
    rw [hk, Gr.EG] at hnum
    obtain ⟨a1, a2, a3, a4⟩ := (gu f).yQ (m := n - (gu f).W * (gu f).H) hn hx hy (z := k) (by omega) (by omega)
    exact ⟨by omega, hn, a1, .inr (.inr ⟨rfl, by omega, by omega, by omega⟩)⟩
  have y0 : 0 < (gu f).Y n → (gu f).W ≤ n ∧ (gu f).Nb n (n - (gu f).W) 2 := fun hc => by
    obtain ⟨k, hk⟩ : ∃ k, (gu f).Y n = k + 1 := ⟨(gu f).Y n - 1, by omega⟩
    rw [hk, Gr.EN] at hnum
    obtain ⟨a1, a2, a3, a4⟩ := (gu f).yQ (m := n - (gu f).W) hn hx (y := k) (by omega) hz (by omega)
    exact ⟨by omega, hn, a1, .inr (.inl ⟨rfl, by omega, by omega, by omega⟩)⟩
  have x0 : 0 < (gu f).X n → 1 ≤ n ∧ (gu f).Nb n (n - 1) 1 := fun hc => by
    obtain ⟨k, hk⟩ : ∃ k, (gu f).X n = k + 1 := ⟨(gu f).X n - 1, by omega⟩
    rw [hk, Gr.ED] at hnum
    obtain ⟨a1, a2, a3, a4⟩ := (gu f).yQ (m := n - 1) hn (x := k) (by omega) hy hz (by omega)
    exact ⟨by omega, hn, a1, .inl ⟨rfl, by omega, by omega, by omega⟩⟩
  have x1 : (gu f).X n + 1 < (gu f).W → (gu f).Nb n (n + 1) 1 := fun hc => by
    obtain ⟨a1, a2, a3, a4⟩ := (gu f).yQ (m := n + 1) hn hc hy hz (by rw [Gr.ED, hnum])
    exact ⟨hn, a1, .inl ⟨rfl, by omega, by omega, by omega⟩⟩
  have y1' : (gu f).Y n + 1 < (gu f).H → (gu f).Nb n (n + (gu f).W) 2 := fun hc => by
    obtain ⟨a1, a2, a3, a4⟩ := (gu f).yQ (m := n + (gu f).W) hn hx hc hz (by rw [Gr.EN, hnum])
    exact ⟨hn, a1, .inr (.inl ⟨rfl, by omega, by omega, by omega⟩)⟩
  have z1 : (gu f).Z n + 1 < (gu f).L → (gu f).Nb n (n + (gu f).W * (gu f).H) 3 := fun hc => by
    obtain ⟨a1, a2, a3, a4⟩ := (gu f).yQ (m := n + (gu f).W * (gu f).H) hn hx hy hc (by rw [Gr.EG, hnum])
    exact ⟨hn, a1, .inr (.inr ⟨rfl, by omega, by omega, by omega⟩)⟩
  have one : ∀ (y1 : Cell) (j : Nat) (row : jZ) (c' : Bool) (m : Nat) (al : Int) (R : List (Nat × Int)) (X : σ → Int → Prop) (s : σ), (LG f y1)[j]? = some row → j < 6 → row.along = al → row.is = c' → (c' = true → w64 ((n : Int) + row.by_) = (m : Int) ∧ (gu f).Nb n m al) → I ((gu f).nb1 c' m al ++ R) s → (∀ s', I R s' → X s' ((j + 1 : Nat) : Int)) → Me f (n : Int) step Q y1 X s (j : Int) := by
    intro y1 j row c' m al R X s hrow hj hal hc hm hI hK
    unfold Me
    rw [decide_eq_true (show (j : Int) < 6 by omega)]
    simp only [iJ]
    refine gG hrow ?_
    rw [hal, hc, show w64 ((j : Int) + 1) = ((j + 1 : Nat) : Int) by rw [fO] <;> omega]
    refine PU hf (m := m) (fun e => ⟨(hm e).1, (hm e).2.2.1⟩) (k := fun b => cnd b (step (w64 ((n : Int) + row.by_)) al s (fun s' => X s' ((j + 1 : Nat) : Int))) (X s ((j + 1 : Nat) : Int))) (fun b => rfl) ?_
    unfold Gr.nb1 at hI
    split
    · rename_i e
      rw [if_pos e] at hI
      rw [(hm e.1).1]
      exact hstep m al R s _ (hm e.1).2 e.2 hI hK
    · rename_i e
      rw [if_neg e] at hI
      exact hK s hI
  unfold lI
  refine ⟨by omega, by omega, by omega, by omega, by omega, ?_⟩
  rw [cellX, cellY, cellZ]
  generalize hy1 : (⟨((gu f).X n : Int), ((gu f).Y n : Int), ((gu f).Z n : Int)⟩ : Cell) = y1
  have hX : y1.X = ((gu f).X n : Int) := by rw [← hy1]
  have hY : y1.Y = ((gu f).Y n : Int) := by rw [← hy1]
  have hZ : y1.Layer = ((gu f).Z n : Int) := by rw [← hy1]
  unfold Gr.zV at hI
  refine ⟨7, ?_⟩
  refine hF y1 _ s 0 (one y1 0 _ (decide (0 < (gu f).Z n)) (n - (gu f).W * (gu f).H) 3 _ _ s rfl (by omega) rfl (decide_eq_decide.2 (by omega)) (fun e => ?_) hI (fun s hI => ?_))
  · have := z0 (by simpa using e); exact ⟨by simp only; rw [enwh, fO] <;> omega, this.2⟩
  refine hF y1 _ s 1 (one y1 1 _ (decide (0 < (gu f).Y n)) (n - (gu f).W) 2 _ _ s rfl (by omega) rfl (decide_eq_decide.2 (by omega)) (fun e => ?_) hI (fun s hI => ?_))
  · have := y0 (by simpa using e); exact ⟨by simp only; rw [enw, fO] <;> omega, this.2⟩
  refine hF y1 _ s 2 (one y1 2 _ (decide (0 < (gu f).X n)) (n - 1) 1 _ _ s rfl (by omega) rfl (decide_eq_decide.2 (by omega)) (fun e => ?_) hI (fun s hI => ?_))
  · have := x0 (by simpa using e); exact ⟨by simp only; rw [fO] <;> omega, this.2⟩
  refine hF y1 _ s 3 (one y1 3 _ (decide ((gu f).X n + 1 < (gu f).W)) (n + 1) 1 _ _ s rfl (by omega) rfl (decide_eq_decide.2 (by rw [ew1]; omega)) (fun e => ?_) hI (fun s hI => ?_))
  · exact ⟨by simp only; rw [fO] <;> omega, x1 (by simpa using e)⟩
  refine hF y1 _ s 4 (one y1 4 _ (decide ((gu f).Y n + 1 < (gu f).H)) (n + (gu f).W) 2 _ _ s rfl (by omega) rfl (decide_eq_decide.2 (by rw [eh1]; omega)) (fun e => ?_) hI (fun s hI => ?_))
  · exact ⟨by simp only; rw [hw, fO] <;> omega, y1' (by simpa using e)⟩
  refine hF y1 _ s 5 (one y1 5 _ (decide ((gu f).Z n + 1 < (gu f).L)) (n + (gu f).W * (gu f).H) 3 [] _ s rfl (by omega) rfl (decide_eq_decide.2 (by rw [el1]; omega)) (fun e => ?_) (by rw [List.append_nil]; exact hI) (fun s hI => ?_))
  · exact ⟨by simp only; rw [ewh, fO] <;> omega, z1 (by simpa using e)⟩
  refine hF y1 _ s 6 ?_
  unfold Me
  rw [show decide ((6 : Int) < 6) = false by decide]
  simp only [gY]
  exact h s hI
end
section
variable {f : eX} {back : Bool} {S : List Nat} {D : List Nat} {C : Nat} {x : dW} {R : List (Nat × Int)} {out : List Int} {q : List dW} {Q : dW → List Int → List dW → Prop}
theorem Qc (hf : rf f) {s : Nat} (hs : s = x.state.toNat) (hsN : s < 3 * (gu f).N) (hI : StI f back S D C x ((gu f).E back s) out q) (h : ∀ out' q', StI f back S D C x [] out' q' → Q x out' q') :
    ul f ((s / 3 : Nat) : Int) back f ((gu f).Z (s / 3) : Int) ((s % 3 : Nat) : Int) x out q Q := by
  have hn : s / 3 < (gu f).N := by omega
  unfold ul
  refine Lp hf hn (σ := dW × List Int × List dW) (s := (x, out, q)) (fun t i => (t.2.1, t.2.2, t.1, i)) (fun m al t K => oJ m al back f ((gu f).Z (s / 3) : Int) ((s % 3 : Nat) : Int) t.1 t.2.1 t.2.2 (fun a b c => K (a, b, c))) (Q := fun t => Q t.1 t.2.1 t.2.2) (fun y1 X s i h => h) (fun R t => t.1 = x ∧ StI f back S D C x (R.flatMap ((gu f).el back s)) t.2.1 t.2.2) (fun m al R t K hnb hm hI hK => ?_) ⟨rfl, hI⟩ (fun t hI => ?_)
  · obtain ⟨tx, to, tq⟩ := t
    obtain ⟨rfl, hI⟩ := hI
    have hax : al = 1 ∨ al = 2 ∨ al = 3 := by have := hnb.2.2; omega
    exact NT hf hnb.2.1 hax hs hI (fun o q' h' => hK (tx, o, q') ⟨rfl, h'⟩)
  · obtain ⟨tx, to, tq⟩ := t
    obtain ⟨rfl, hI⟩ := hI
    exact h _ _ hI
theorem O8 (hf : rf f) (h0 : 0 ≤ x.state) (hsN : x.state.toNat < 3 * (gu f).N) (hI : StI f back S D C x ((gu f).E back x.state.toNat) out q) (h : ∀ out' q', StI f back S D C x [] out' q' → Q x out' q') :
    rW f x.state back x out q Q := by
  obtain ⟨s, hs⟩ : ∃ s : Nat, x.state = (s : Int) := ⟨x.state.toNat, by omega⟩
  have hst : x.state.toNat = s := by omega
  rw [hst] at hI hsN
  rw [hs]
  have hN := hf.N
  have hW := hf.W
  have hH := hf.H
  have e1 : w64 ((s : Int).tdiv 3) = ((s / 3 : Nat) : Int) := by rw [Int.tdiv_eq_ediv_of_nonneg (by omega), fO] <;> omega
  have e2 : (s : Int).tmod 3 = ((s % 3 : Nat) : Int) := by rw [Int.tmod_eq_emod_of_nonneg (by omega)]; omega
  have e3 : w64 ((w64 (((s / 3 : Nat) : Int).tdiv f.g.W)).tdiv f.g.H) = ((gu f).Z (s / 3) : Int) := by
    have e0 : w64 (((s / 3 : Nat) : Int).tdiv f.g.W) = ((s / 3 / (gu f).W : Nat) : Int) := by
      rw [hf.w, ← Int.ofNat_tdiv]; exact yj (Nat.le_trans (Nat.div_le_self _ _) (by omega))
    rw [e0, hf.h, ← Int.ofNat_tdiv]; exact yj (Nat.le_trans (Nat.div_le_self _ _) (Nat.le_trans (Nat.div_le_self _ _) (by omega)))
  unfold rW
  refine ⟨by omega, by omega, ?_⟩
  rw [e1, e2, e3]
  exact Qc hf hst.symm hsN hI h
end
theorem Ko {f : eX} {back : Bool} (hf : rf f) {Sn : List Nat} (hnd : Sn.Nodup) (hlt : ∀ s ∈ Sn, s < 3 * (gu f).N) {Q : List Int → Prop} (h : ∀ out, Least ((gu f).E back) Sn (3 * (gu f).N) out → Q out) : xH f (Sn.map (fun n : Nat => (n : Int))) back Q := by
  have hN := hf.N
  have hno := hf.no
  have hE := hf.ok.good back
  have hSl : Sn.length ≤ 3 * (gu f).N := jT _ _ hnd hlt
  have ew : w64 (3 * (f.no.length : Int)) = ((3 * (gu f).N : Nat) : Int) := by rw [hno, fO] <;> omega
  unfold xH
  rw [ew]
  refine ⟨⟨by omega, by omega⟩, ?_⟩
  rw [Int.toNat_natCast]
  -- all are -1 at first
  refine oU (fun m (s : List Int × Int) => ∃ k : Nat, s.2 = (k : Int) ∧ k + m = 3 * (gu f).N ∧ s.1.length = 3 * (gu f).N ∧ ∀ i d, i < k → s.1[i]? = some d → d = -1) (n := 3 * (gu f).N) ⟨0, rfl, by omega, by simp, fun i d hi => by omega⟩ ?_
  rintro m ⟨l2, n2⟩ X ⟨k, hk, hkm, hl, ha⟩ hX
  simp only at hk hl ha
  subst hk
  show uT f (Sn.map (fun n : Nat => (n : Int))) back Q (fun l2 n2 => X (l2, n2)) l2 k
  unfold uT
  rw [ew, Int.toNat_natCast, List.length_replicate]
  refine fB (fun e => ?_) (fun e => ?_)
  · have e' : k < 3 * (gu f).N := by simp at e; omega
    have hx : l2[k]? = some (l2[k]'(by omega)) := List.getElem?_eq_getElem (by omega)
    refine gG hx ?_
    rw [Int.toNat_natCast, show w64 ((k : Int) + 1) = ((k + 1 : Nat) : Int) by rw [fO] <;> omega]
    refine hX (m - 1) _ (by omega) ⟨k + 1, rfl, by omega, by simp [hl], fun i d hi hd => ?_⟩
    simp only [List.getElem?_set] at hd
    split at hd
    · split at hd
      · injection hd with hd; exact hd.symm
      · cases hd
    · exact ha i d (by omega) hd
  · have e' : 3 * (gu f).N ≤ k := by simp at e; omega
    -- the starts
    refine jO (fun j (s : List dW × List Int) => s.1 = (Sn.take j).map (fun n : Nat => (⟨0, (n : Int)⟩ : dW)) ∧ s.2.length = 3 * (gu f).N ∧ (∀ (i : Nat) d, s.2[i]? = some d → d = -1 ∨ (d = 0 ∧ i ∈ Sn.take j)) ∧ ∀ i ∈ Sn.take j, s.2[i]? = some 0) ⟨rfl, hl, fun i d hd => .inl (ha i d (by have h9 : l2[i]? = some d := hd; have := (List.getElem?_eq_some_iff.1 h9).1; omega) hd), fun i hi => by simp at hi⟩ ?_ ?_
    · rintro j xk ⟨l5, l6⟩ hx ⟨h1, h2, h3, h4⟩ next hn
      simp only at h1 h2 h3 h4
      rw [List.getElem?_map] at hx
      obtain ⟨s, hs, rfl⟩ := Option.map_eq_some_iff.1 hx
      have hsm : s ∈ Sn := List.mem_of_getElem? hs
      have hsl := hlt s hsm
      have hjl := (List.getElem?_eq_some_iff.1 hs).1
      show uX j (s : Int) l5 l6 (fun l5 l6 => next (l5, l6))
      unfold uX
      refine gG (List.getElem?_eq_getElem (by omega)) ⟨uJ ?_ (by decide), ?_⟩
      · rw [h1]; simp only [List.length_append, List.length_map, List.length_take, List.length_singleton]; omega
      · rw [Int.toNat_natCast]
        have htk : Sn.take (j + 1) = Sn.take j ++ [s] := by rw [List.take_add_one, hs]; rfl
        refine hn _ ⟨by rw [h1, htk, List.map_append]; rfl, by simp [h2], fun i d hd => ?_, fun i hi => ?_⟩
        · simp only [List.getElem?_set] at hd
          rw [htk]
          split at hd
          · rename_i e3; subst e3
            split at hd
            · injection hd with hd; exact .inr ⟨hd.symm, by simp⟩
            · cases hd
          · rcases h3 i d hd with h5 | ⟨h5, h6⟩
            · exact .inl h5
            · exact .inr ⟨h5, List.mem_append_left _ h6⟩
        · rw [htk] at hi
          simp only [List.getElem?_set]
          split
          · rename_i e3; subst e3; rw [if_pos (by omega)]
          · rename_i e3
            rcases List.mem_append.1 hi with h5 | h5
            · exact h4 i h5
            · simp at h5; exact absurd h5.symm e3
    · rintro ⟨l5, l6⟩ ⟨h1, h2, h3, h4⟩
      simp only [List.length_map, List.take_length] at h1 h2 h3 h4
      show rP l5 _
      refine JC (by rw [h1]; simp only [List.length_map]; omega) (fun q0 hp hh => ?_)
      have hp2 : (q0.map pr).Perm (Sn.map (fun s => ((0 : Int), s))) := by
        have := hp.map pr
        rw [h1, List.map_map] at this
        refine this.trans (List.Perm.of_eq (List.map_congr_left (fun s _ => ?_)))
        simp [pr]
      have hpos : ∀ y ∈ q0, 0 ≤ y.state := fun y hy => by
        have := hp.mem_iff.1 hy
        rw [h1] at this
        obtain ⟨s, _, rfl⟩ := List.mem_map.1 this
        simp only; omega
      have hq0 : q0.length = Sn.length := by rw [hp.length_eq, h1, List.length_map]
      -- the search itself
      refine oU (fun m (s : List Int × List dW) => ∃ D, xW ((gu f).E back) Sn (3 * (gu f).N) 3000 (fun _ => False) D s.1 (s.2.map pr) ∧ xR s.2 ∧ (∀ y ∈ s.2, 0 ≤ y.state) ∧ m = s.2.length + 18 * (3 * (gu f).N - D.length) ∧ m ≤ 4000000) (n := q0.length + 18 * (3 * (gu f).N)) ⟨[], xW.init (by decide) h2 h3 h4 hp2 hnd, hh, hpos, by simp, by omega⟩ ?_
      rintro m ⟨out, q⟩ X2 ⟨D, hi, hh, hpos, hm, hmb⟩ hX2
      simp only at hi hh hpos hm
      show rG f back Q (fun l9 l10 => X2 (l9, l10)) out q
      unfold rG
      refine fB (fun e => ?_) (fun e => ?_)
      · have hq : 0 < q.length := by simpa using e
        refine KX (by omega) hq hh (fun x q' hpp hmin hh' => ?_)
        have hi2 : xW ((gu f).E back) Sn (3 * (gu f).N) 3000 (fun _ => False) D out (pr x :: q'.map pr) := hi.perm (hpp.map pr).symm
        have hx0 : 0 ≤ x.state := hpos x (hpp.mem_iff.2 List.mem_cons_self)
        have hpos' : ∀ y ∈ q', 0 ≤ y.state := fun y hy => hpos y (hpp.mem_iff.2 (List.mem_cons_of_mem _ hy))
        have hlq : q.length = q'.length + 1 := by rw [hpp.length_eq]; rfl
        obtain ⟨d, hd, hd0, hd1⟩ := hi2.qin (pr x) List.mem_cons_self
        simp only [pr] at hd hd1
        have hxn : x.state.toNat < 3 * (gu f).N := by rw [← hi.len]; exact (List.getElem?_eq_some_iff.1 hd).1
        refine ⟨hx0, d, hd, ?_⟩
        refine fB (fun e2 => ?_) (fun e2 => ?_)
        · have e2' : d < x.key := by simpa using e2
          exact hX2 (q'.length + 18 * (3 * (gu f).N - D.length)) (out, q') (by omega) ⟨D, hi2.skip hd e2', hh', hpos', rfl, by omega⟩
        · have e2' : ¬ d < x.key := by simpa using e2
          obtain ⟨hr, hDl⟩ := hi2.open_ (fun y hy => by obtain ⟨z, hz, rfl⟩ := List.mem_map.1 hy; exact hmin z hz) hd e2'
          have hel := (hE _ hxn).1
          refine O8 (D := x.state.toNat :: D) (C := m - 1) hf hx0 hxn ⟨⟨[], hr⟩, hh', hpos', by simp only [List.length_cons]; omega, by omega⟩ (fun out' q'' hI => ?_)
          obtain ⟨⟨L, hr'⟩, hh'', hpos'', hc, _⟩ := hI
          simp only [List.length_cons, List.length_nil] at hc
          exact hX2 (q''.length + 18 * (3 * (gu f).N - (D.length + 1))) (out', q'') (by omega) ⟨_, hr'.close, hh'', hpos'', rfl, by omega⟩
      · have hq : q = [] := by
          cases q with
          | nil => rfl
          | cons y r => simp at e
        subst hq
        exact h out (xW.least hi hE)
theorem QB {f : eX} (hf : rf f) {n : Nat} (hn : n < (gu f).N) {Q : List Int → Prop} (h : ∀ out, Least ((gu f).E true) [3 * n, 3 * n + 1, 3 * n + 2] (3 * (gu f).N) out → Q out) : rH f (n : Int) Q := by
  have hN := hf.N
  unfold rH
  rw [fO (n := 3 * (n : Int)) (by omega) (by omega), fO (n := 3 * (n : Int) + 1) (by omega) (by omega), fO (n := 3 * (n : Int) + 2) (by omega) (by omega)]
  have := Ko (f := f) (back := true) (Sn := [3 * n, 3 * n + 1, 3 * n + 2]) hf (by simp) (fun s hs => by simp at hs; omega) h
  simpa using this
end Go.Proofs.YtfjcgoiedlimdaaGreatDoor

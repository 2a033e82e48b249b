/- Chapter texts of ours, as far as the claim needs them. -/
import Derived.Test.YtfjcgoiedlimdaaGreatDoorRtW
import Derived.Test.YtfjcgoiedlimdaaGreatDoorRtH
import Derived.Test.YtfjcgoiedlimdaaGreatDoorRtC
namespace Go.Proofs.YtfjcgoiedlimdaaGreatDoor
open Go Go.RowKit
set_option linter.unusedVariables false
set_option linter.unusedSectionVars false
set_option linter.unusedSimpArgs false
namespace Gr
variable {G : Gr}
theorem PN {s t : Nat} {k : Int} (hs : s < 3 * G.N) (fs : G.no (s / 3) = false) (h : (t, k) ∈ G.E true s) : t < 3 * G.N ∧ G.no (t / 3) = false ∧ (s, k) ∈ G.E false t := by
  obtain ⟨m, al, hnb, hm, hel⟩ := (Ak hs).1 h
  have hmN := hnb.2.1
  have hax := Nb.ax hnb
  unfold el at hel
  simp only at hel
  by_cases h3 : al = 3
  · subst h3
    simp only [if_true, List.mem_singleton] at hel
    injection hel with e1 e2
    subst e1; subst e2
    have et : (3 * m + s % 3) / 3 = m := by omega
    refine ⟨by omega, by rw [et]; exact hm, (Ak (by omega)).2 ⟨s / 3, 3, ?_, fs, ?_⟩⟩
    · rw [et]; exact Nb.symm G hnb
    · unfold el; simp only [if_true, List.mem_singleton]; rw [show (3 * m + s % 3) % 3 = s % 3 by omega, show 3 * (s / 3) + s % 3 = s by omega]
  · rw [if_neg h3, if_pos trivial] at hel
    split at hel
    · rename_i h4
      have key : ∀ j : Nat, j < 3 → t = 3 * m + j → k = G.base (s / 3) al + G.tn (j : Int) al → t < 3 * G.N ∧ G.no (t / 3) = false ∧ (s, k) ∈ G.E false t := by
        intro j hj ht hk
        have et : t / 3 = m := by omega
        refine ⟨by omega, by rw [et]; exact hm, (Ak (by omega)).2 ⟨s / 3, al, ?_, fs, ?_⟩⟩
        · rw [et]; exact Nb.symm G hnb
        · unfold el; simp only
          rw [if_neg h3, if_neg (by simp), List.mem_singleton, et, show t % 3 = j by omega, ← Nb.base G hnb, ← hk, show 3 * (s / 3) + al.toNat = s by omega]
      simp only [List.mem_cons, List.not_mem_nil, or_false, Prod.mk.injEq] at hel
      rcases hel with ⟨e1, e2⟩ | ⟨e1, e2⟩ | ⟨e1, e2⟩
      · exact key 0 (by omega) (by omega) e2
      · exact key 1 (by omega) e1 e2
      · exact key 2 (by omega) e1 e2
    · cases hel
theorem MW {s t : Nat} {k : Int} (hs : s < 3 * G.N) (h : (t, k) ∈ G.E false s) : ∃ al, G.Nb (s / 3) (t / 3) al ∧ G.no (t / 3) = false ∧ t % 3 = (if al = 3 then s % 3 else al.toNat) ∧ k = (if al = 3 then G.via else G.base (t / 3) al + G.tn ((s % 3 : Nat) : Int) al) := by
  obtain ⟨m, al, hnb, hm, hel⟩ := (Ak hs).1 h
  have hax := Nb.ax hnb
  unfold el at hel
  simp only at hel
  by_cases h3 : al = 3
  · subst h3
    simp only [if_true, List.mem_singleton] at hel
    injection hel with e1 e2
    have et : t / 3 = m := by omega
    exact ⟨3, by rw [et]; exact hnb, by rw [et]; exact hm, by rw [if_pos rfl]; omega, by rw [if_pos rfl]; exact e2⟩
  · rw [if_neg h3, if_neg (by simp), List.mem_singleton] at hel
    injection hel with e1 e2
    have et : t / 3 = m := by omega
    exact ⟨al, by rw [et]; exact hnb, by rw [et]; exact hm, by rw [if_neg h3]; omega, by rw [if_neg h3, et, ← Nb.base G hnb]; exact e2⟩
theorem QA {s m : Nat} {al : Int} (hs : s < 3 * G.N) (hnb : G.Nb (s / 3) m al) (hm : G.no m = false) : (3 * m + (if al = 3 then s % 3 else al.toNat), if al = 3 then G.via else G.base m al + G.tn ((s % 3 : Nat) : Int) al) ∈ G.E false s := by
  refine (Ak hs).2 ⟨m, al, hnb, hm, ?_⟩
  unfold el
  simp only
  by_cases h3 : al = 3
  · simp only [if_pos h3, List.mem_singleton]
  · rw [if_neg h3, if_neg h3, if_neg h3, if_neg (by simp), List.mem_singleton, Nb.base G hnb]
theorem F8 (ok : G.Ok) {s t : Nat} {k : Int} (hs : s < 3 * G.N) (h : (t, k) ∈ G.E false s) : 1 ≤ k ∧ k ≤ 3000 := by
  obtain ⟨al, hnb, hm, h1, h2⟩ := MW hs h
  have b := ok.base (t / 3) al
  have tn := ok.tn ((s % 3 : Nat) : Int) al
  have := ok.via
  split at h2 <;> omega
inductive Steps (G : Gr) : Nat → List Nat → Int → Nat → Prop
  | nil {s : Nat} : Steps G s [] 0 s
  | cons {s t : Nat} {k : Int} {l : List Nat} {c : Int} {e : Nat} : (t, k) ∈ G.E false s → Steps G t l c e → Steps G s (t :: l) (k + c) e
theorem Steps.cost (ok : G.Ok) {s : Nat} {l : List Nat} {c : Int} {e : Nat} (h : G.Steps s l c e) (hs : s < 3 * G.N) : (l.length : Int) ≤ c ∧ e < 3 * G.N ∧ (∀ t ∈ l, t < 3 * G.N ∧ G.no (t / 3) = false) ∧ (G.no (s / 3) = false → G.no (e / 3) = false) := by
  induction h with
  | nil => exact ⟨by simp, hs, fun t ht => (by cases ht), id⟩
  | cons he _ ih =>
    have hk := F8 ok hs he
    obtain ⟨al, hnb, hm, h1, h2⟩ := MW hs he
    have ht := hnb.2.1
    have i := ih (by omega)
    refine ⟨by simp only [List.length_cons]; omega, i.2.1, fun u hu => ?_, fun _ => i.2.2.2 hm⟩
    rcases List.mem_cons.1 hu with hu | hu
    · subst hu; exact ⟨by omega, hm⟩
    · exact i.2.2.1 u hu
theorem Steps.turn (ok : G.Ok) {s : Nat} {l : List Nat} {c : Int} {e : Nat} (h : G.Steps s l c e) (hs : s < 3 * G.N) (h0 : s % 3 ≠ 0) (h1 : e % 3 ≠ s % 3) : G.turn + 1 ≤ c := by
  induction h with
  | nil => exact absurd rfl h1
  | @cons s t k l c e he hr ih =>
    have hk := F8 ok hs he
    obtain ⟨al, hnb, hm, h2, h3⟩ := MW hs he
    have ht := hnb.2.1
    have hax := Nb.ax hnb
    have hc := (hr.cost ok (by omega)).1
    by_cases ha : al = 3
    · rw [if_pos ha] at h2
      have := ih (by omega) (by omega) (by omega)
      omega
    · rw [if_neg ha] at h2 h3
      by_cases hb : al = ((s % 3 : Nat) : Int)
      · have := ih (by omega) (by omega) (by omega)
        omega
      · unfold tn at h3
        rw [if_pos ⟨by omega, fun e => hb e.symm⟩] at h3
        have b := ok.base (t / 3) al
        omega
theorem NJ (ok : G.Ok) (i j : Int) (L : List Int) : G.trn i L ≤ G.trn j L + G.turn ∧ G.trn 0 L ≤ G.trn j L := by
  cases L with
  | nil => have := ok.turn; simp only [trn]; omega
  | cons a r =>
    have h1 := ok.tn i a
    have h2 := ok.tn j a
    have h3 := G.I7 a
    have h4 : G.tn i a ≤ G.turn := by unfold tn; have := ok.turn; split <;> omega
    simp only [trn]; omega
structure lY (G : Gr) (b : Nat) (out : List Int) : Prop where
  ok : G.Ok
  lt : b < G.N
  free : G.no b = false
  least : Least (G.E true) [3 * b, 3 * b + 1, 3 * b + 2] (3 * G.N) out
variable {b : Nat} {out : List Int}
theorem lY.yg (h : G.lY b out) {s : Nat} {d : Int} (hd : out[s]? = some d) (h0 : 0 ≤ d) : s < 3 * G.N ∧ G.no (s / 3) = false := by
  obtain ⟨c, n, w, _⟩ := h.least.way s d hd h0
  obtain ⟨h1, _, _, hp, _⟩ := AO h.lt h.free w
  exact ⟨h1, (Pth.ends G hp).2.2.1⟩
theorem lY.next (h : G.lY b out) {s : Nat} {d : Int} (hd : out[s]? = some d) (h0 : 0 < d) : ∃ e ∈ G.E false s, ∃ d', out[e.1]? = some d' ∧ 0 ≤ d' ∧ d' + (e.2 * kB + 1) = d := by
  have hkB : kB = 1048576 := rfl
  obtain ⟨c, n, w, e, hc, hn⟩ := h.least.way s d hd (by omega)
  cases w with
  | start hs => simp at e; omega
  | @step s' c' n' _ k w' he =>
    obtain ⟨h1, _, _, hp, _⟩ := AO h.lt h.free w'
    obtain ⟨_, _, h3⟩ := PN h1 (Pth.ends G hp).2.2.1 he
    obtain ⟨d', hd', hd0, hd1⟩ := h.least.min _ _ _ w'
    obtain ⟨c2, n2, w2, e2, _, _⟩ := h.least.way _ _ hd' hd0
    obtain ⟨d3, hd3, _, h4⟩ := h.least.min _ _ _ (w2.step he)
    rw [hd] at hd3; injection hd3 with hd3; subst hd3
    refine ⟨_, h3, d', hd', hd0, ?_⟩
    simp only
    rw [Int.add_mul] at h4 e
    push_cast at h4 e
    omega
def pick (out : List Int) (d : Int) (l : List (Nat × Int)) : Option (Nat × Int) := l.find? (fun e => decide (0 ≤ out.getD e.1 (-1)) && decide (out.getD e.1 (-1) + (e.2 * kB + 1) = d))
inductive Goes (G : Gr) (out : List Int) : Nat → List Nat → Prop
  | stop {s : Nat} {d : Int} : out[s]? = some d → d = 0 → Goes G out s []
  | step {s t : Nat} {d k : Int} {l : List Nat} : out[s]? = some d → 0 < d → pick out d (G.E false s) = some (t, k) → Goes G out t l → Goes G out s (t :: l)
theorem getD_some {l : List Int} {n : Nat} {x d : Int} (h : l[n]? = some x) : l.getD n d = x := by rw [List.getD_eq_getElem?_getD, h]; rfl
theorem xA {d k : Int} {t : Nat} {l : List (Nat × Int)} (h : pick out d l = some (t, k)) : (t, k) ∈ l ∧ ∃ d', out[t]? = some d' ∧ 0 ≤ d' ∧ d' + (k * kB + 1) = d := by
  have h1 := List.mem_of_find?_eq_some h
  have h2 := List.find?_some h
  simp only [Bool.and_eq_true, decide_eq_true_eq] at h2
  refine ⟨h1, ?_⟩
  cases hq : out[t]? with
  | none => rw [List.getD_eq_getElem?_getD, hq] at h2; simp at h2
  | some d' => rw [getD_some hq] at h2; exact ⟨d', rfl, h2⟩
theorem lY.pick (h : G.lY b out) {s : Nat} {d : Int} (hd : out[s]? = some d) (h0 : 0 < d) : ∃ t k, pick out d (G.E false s) = some (t, k) := by
  obtain ⟨e, he, d', h1, h2, h3⟩ := h.next hd h0
  cases hq : Gr.pick out d (G.E false s) with
  | some p => exact ⟨p.1, p.2, rfl⟩
  | none =>
    have := List.find?_eq_none.1 hq e he
    rw [getD_some h1] at this
    simp [h2, h3] at this
theorem lY.goes (h : G.lY b out) : ∀ (m : Nat) (s : Nat) (d : Int), out[s]? = some d → 0 ≤ d → d.toNat ≤ m → ∃ l, G.Goes out s l := by
  have hkB : kB = 1048576 := rfl
  intro m
  induction m with
  | zero => intro s d hd h0 hm; exact ⟨[], .stop hd (by omega)⟩
  | succ m ih =>
    intro s d hd h0 hm
    by_cases hz : d = 0
    · exact ⟨[], .stop hd hz⟩
    · obtain ⟨t, k, hp⟩ := h.pick hd (by omega)
      obtain ⟨he, d', h1, h2, h3⟩ := xA hp
      have hk := F8 h.ok (h.yg hd h0).1 he
      obtain ⟨l, hl⟩ := ih t d' h1 h2 (by rw [hkB] at h3; omega)
      exact ⟨t :: l, .step hd (by omega) hp hl⟩
theorem Goes.det {s : Nat} {l l' : List Nat} (h : G.Goes out s l) (h' : G.Goes out s l') : l = l' := by
  induction h generalizing l' with
  | stop hd h0 =>
    cases h' with
    | stop _ _ => rfl
    | step hd' h1 _ _ => rw [hd] at hd'; injection hd' with hd'; omega
  | step hd h0 hp _ ih =>
    cases h' with
    | stop hd' h1 => rw [hd] at hd'; injection hd' with hd'; omega
    | step hd' h1 hp' hg =>
      rw [hd] at hd'; injection hd' with hd'; subst hd'
      rw [hp] at hp'; injection hp' with hp'; injection hp' with e1 e2; subst e1
      rw [ih hg]
theorem Goes.steps {s : Nat} {l : List Nat} (h : G.Goes out s l) {d : Int} (hd : out[s]? = some d) : ∃ c e, G.Steps s l c e ∧ d = c * kB + l.length ∧ out[e]? = some 0 := by
  induction h generalizing d with
  | @stop s d2 hd2 h0 => rw [hd] at hd2; injection hd2 with hd2; subst hd2; subst h0; exact ⟨0, _, .nil, by simp, hd⟩
  | step hd2 h0 hp hg ih =>
    rw [hd] at hd2; injection hd2 with hd2; subst hd2
    obtain ⟨he, d', h1, h2, h3⟩ := xA hp
    obtain ⟨c, e, h4, h5, h6⟩ := ih h1
    exact ⟨_, e, .cons he h4, by rw [Int.add_mul]; simp only [List.length_cons]; push_cast; omega, h6⟩
theorem lY.end_ (h : G.lY b out) {e : Nat} (he : out[e]? = some 0) : e ∈ [3 * b, 3 * b + 1, 3 * b + 2] := by
  have hkB : kB = 1048576 := rfl
  obtain ⟨c, n, w, h1, h2, _⟩ := h.least.way e 0 he (Int.le_refl _)
  cases w with
  | start hs => exact hs
  | step _ _ => rw [hkB] at h1; push_cast at h1; omega
theorem lY.MO (h : G.lY b out) {s u : Nat} {l : List Nat} {c d d' : Int} (hst : G.Steps s l c u) (hl : l ≠ []) (hsu : u / 3 = s / 3) (hd : out[s]? = some d) (h0 : 0 ≤ d) (hd' : out[u]? = some d') (h0' : 0 ≤ d') (he : d = d' + (c * kB + l.length)) : False := by
  have hkB : kB = 1048576 := rfl
  have hs := h.yg hd h0
  have hu := h.yg hd' h0'
  have hc := hst.cost h.ok hs.1
  have hll : 0 < l.length := List.length_pos_iff.2 hl
  -- the way of u as a way of s
  obtain ⟨cu, n, w, eu, _, _⟩ := h.least.way u d' hd' h0'
  obtain ⟨_, c0, L, hp, hcu⟩ := AO h.lt h.free w
  have hw := JG (Pth.rev G hp) (s % 3) (by omega)
  rw [List.reverse_reverse, hsu, show 3 * (s / 3) + s % 3 = s by omega] at hw
  obtain ⟨d2, hd2, _, hm⟩ := h.least.min _ _ _ hw
  rw [hd] at hd2; injection hd2 with hd2; subst hd2
  have hn := NJ h.ok ((s % 3 : Nat) : Int) ((u % 3 : Nat) : Int) L
  rw [hcu] at eu
  by_cases e1 : u % 3 = s % 3
  · have : u = s := by omega
    subst this
    rw [hd] at hd'; injection hd' with hd'
    rw [hkB] at he; omega
  · by_cases e2 : s % 3 = 0
    · rw [e2] at hm
      have h2 : G.trn ((0 : Nat) : Int) L ≤ G.trn ((u % 3 : Nat) : Int) L := hn.2
      have hc1 := hc.1
      clear hn hc
      generalize G.trn ((0 : Nat) : Int) L = A at *
      generalize G.trn ((u % 3 : Nat) : Int) L = B at *
      rw [hkB] at hm eu he; omega
    · have ht := hst.turn h.ok hs.1 e2 e1
      have h2 := hn.1
      have hc1 := hc.1
      clear hn hc
      generalize G.trn ((s % 3 : Nat) : Int) L = A at *
      generalize G.trn ((u % 3 : Nat) : Int) L = B at *
      rw [hkB] at hm eu he; omega
theorem Goes.mem {s : Nat} {l : List Nat} (h : G.Goes out s l) {d : Int} (hd : out[s]? = some d) : ∀ u ∈ l, ∃ pre c d', pre ≠ [] ∧ G.Steps s pre c u ∧ out[u]? = some d' ∧ 0 ≤ d' ∧ d = d' + (c * kB + pre.length) := by
  induction h generalizing d with
  | stop _ _ => intro u hu; cases hu
  | @step s t d2 k l hd2 h0 hp hg ih =>
    rw [hd] at hd2; injection hd2 with hd2; subst hd2
    obtain ⟨he, d', h1, h2, h3⟩ := xA hp
    intro u hu
    rcases List.mem_cons.1 hu with hu | hu
    · subst hu; exact ⟨[u], k + 0, d', by simp, .cons he .nil, h1, h2, by simp only [List.length_cons, List.length_nil, Int.add_zero]; omega⟩
    · obtain ⟨pre, c, d3, _, h5, h6, h7, h8⟩ := ih h1 u hu
      exact ⟨t :: pre, k + c, d3, by simp, .cons he h5, h6, h7, by rw [Int.add_mul]; simp only [List.length_cons]; push_cast; omega⟩
theorem lY.nodup (h : G.lY b out) {s : Nat} {l : List Nat} (hg : G.Goes out s l) {d : Int} (hd : out[s]? = some d) (h0 : 0 ≤ d) : ((s :: l).map (· / 3)).Nodup := by
  induction hg generalizing d with
  | stop _ _ => simp
  | @step s t d2 k l hd2 h02 hp hg ih =>
    rw [hd] at hd2; injection hd2 with hd2; subst hd2
    obtain ⟨he, d', h1, h2, h3⟩ := xA hp
    have hn := ih h1 h2
    rw [List.map_cons, List.nodup_cons]
    refine ⟨fun hm => ?_, hn⟩
    obtain ⟨u, hu, e⟩ := List.mem_map.1 hm
    obtain ⟨pre, c, d3, hpre, hst, h6, h7, h8⟩ := (Goes.step hd h02 hp hg).mem hd u hu
    exact h.MO hst hpre e hd h0 h6 h7 h8
def FT (M : Nat) (P : Int → Nat → Prop) (d : Int) : Prop := (d = -1 ∧ ∀ c n, ¬ P c n) ∨ (0 ≤ d ∧ (∃ c n, P c n ∧ d = c * kB + n ∧ 0 ≤ c ∧ n < M) ∧ ∀ c n, P c n → d ≤ c * kB + n)
theorem FT.eq {M M' : Nat} {P P' : Int → Nat → Prop} {d d' : Int} (h : FT M P d) (h' : FT M' P' d') (hp : ∀ c n, P c n ↔ P' c n) : d = d' := by
  rcases h with ⟨h1, h2⟩ | ⟨h1, ⟨c, n, h2, h3, _, _⟩, h4⟩
  · rcases h' with ⟨g1, g2⟩ | ⟨g1, ⟨c, n, g2, _⟩, _⟩
    · omega
    · exact absurd ((hp _ _).2 g2) (h2 _ _)
  · rcases h' with ⟨g1, g2⟩ | ⟨g1, ⟨c', n', g2, g3, _, _⟩, g4⟩
    · exact absurd ((hp _ _).1 h2) (g2 _ _)
    · have a := h4 _ _ ((hp _ _).2 g2)
      have b := g4 _ _ ((hp _ _).1 h2)
      omega
theorem lY.F7 (h : G.lY b out) {a : Nat} {d : Int} (hd : out[3 * a]? = some d) : FT (3 * G.N) (G.Way a b) d := by
  have hlow := h.least.low _ d hd
  by_cases h0 : 0 ≤ d
  · obtain ⟨c, n, w, e, h1, h2⟩ := h.least.way _ d hd h0
    refine .inr ⟨h0, ⟨c, n, (FQ h.lt h.free).1 w, e, h1, h2⟩, fun c' n' w' => ?_⟩
    obtain ⟨d2, hd2, _, h3⟩ := h.least.min _ _ _ ((FQ h.lt h.free).2 w')
    rw [hd] at hd2; injection hd2 with hd2; subst hd2; exact h3
  · refine .inl ⟨by omega, fun c n w => ?_⟩
    obtain ⟨d2, hd2, h3, _⟩ := h.least.min _ _ _ ((FQ h.lt h.free).2 w)
    rw [hd] at hd2; injection hd2 with hd2; subst hd2; exact h0 h3
def lk (b k : Int) : Int := if 0 ≤ k ∧ (b < 0 ∨ k < b) then k else b
def o6 (out : List Int) (n : Nat) : Int := lk (lk (lk (-1) (out.getD (3 * n) (-1))) (out.getD (3 * n + 1) (-1))) (out.getD (3 * n + 2) (-1))
theorem DC (out : List Int) (n : Nat) : (o6 out n = -1 ∧ ∀ j, j < 3 → out.getD (3 * n + j) (-1) < 0) ∨ (0 ≤ o6 out n ∧ (∃ j, j < 3 ∧ out.getD (3 * n + j) (-1) = o6 out n) ∧ ∀ j, j < 3 → 0 ≤ out.getD (3 * n + j) (-1) → o6 out n ≤ out.getD (3 * n + j) (-1)) := by
  have e : ∀ j, j < 3 → j = 0 ∨ j = 1 ∨ j = 2 := fun j hj => by omega
  have hx : ∀ x y z : Int, (lk (lk (lk (-1) x) y) z = -1 ∧ x < 0 ∧ y < 0 ∧ z < 0) ∨ (0 ≤ lk (lk (lk (-1) x) y) z ∧ (x = lk (lk (lk (-1) x) y) z ∨ y = lk (lk (lk (-1) x) y) z ∨ z = lk (lk (lk (-1) x) y) z) ∧ (0 ≤ x → lk (lk (lk (-1) x) y) z ≤ x) ∧ (0 ≤ y → lk (lk (lk (-1) x) y) z ≤ y) ∧ (0 ≤ z → lk (lk (lk (-1) x) y) z ≤ z)) := by
    intro x y z
    have h1 : ∀ b k : Int, (lk b k = k ∧ 0 ≤ k ∧ (b < 0 ∨ k < b)) ∨ (lk b k = b ∧ (k < 0 ∨ (0 ≤ b ∧ b ≤ k))) := fun b k => by
      unfold lk; split
      · rename_i h; exact .inl ⟨rfl, h⟩
      · rename_i h; exact .inr ⟨rfl, by omega⟩
    have a1 := h1 (-1) x
    generalize lk (-1) x = p at *
    have a2 := h1 p y
    generalize lk p y = q at *
    have a3 := h1 q z
    generalize lk q z = r at *
    omega
  rcases hx (out.getD (3 * n) (-1)) (out.getD (3 * n + 1) (-1)) (out.getD (3 * n + 2) (-1)) with ⟨h1, h2, h3, h4⟩ | ⟨h1, h2, h3, h4, h5⟩
  · exact .inl ⟨h1, fun j hj => by rcases e j hj with rfl | rfl | rfl <;> assumption⟩
  · refine .inr ⟨h1, ?_, fun j hj h0 => by rcases e j hj with rfl | rfl | rfl <;> first | exact h3 h0 | exact h4 h0 | exact h5 h0⟩
    rcases h2 with h2 | h2 | h2
    · exact ⟨0, by omega, h2⟩
    · exact ⟨1, by omega, h2⟩
    · exact ⟨2, by omega, h2⟩
structure CJ (G : Gr) (S : List Nat) (out : List Int) : Prop where
  ok : G.Ok
  cells : ∀ a ∈ S, a < G.N ∧ G.no a = false
  least : Least (G.E false) (S.map (3 * ·)) (3 * G.N) out
theorem CJ.F7 {S : List Nat} (h : G.CJ S out) {n : Nat} (hn : n < G.N) : FT (3 * G.N) (fun c m => ∃ a ∈ S, G.Way a n c m) (o6 out n) := by
  have reach : ∀ c m, (∃ a ∈ S, G.Way a n c m) → ∃ j, j < 3 ∧ 0 ≤ out.getD (3 * n + j) (-1) ∧ out.getD (3 * n + j) (-1) ≤ c * kB + m := by
    rintro c m ⟨a, ha, c0, L, hp, rfl⟩
    obtain ⟨w, h1, h2⟩ := PX ha hp
    obtain ⟨d, hd, h3, h4⟩ := h.least.min _ _ _ w
    exact ⟨(lst 0 L).toNat, by omega, by rw [getD_some hd]; exact h3, by rw [getD_some hd]; exact h4⟩
  rcases DC out n with ⟨h1, h2⟩ | ⟨h1, ⟨j, hj, h2⟩, h3⟩
  · refine .inl ⟨h1, fun c m w => ?_⟩
    obtain ⟨j, hj, h3, _⟩ := reach c m w
    have := h2 j hj; omega
  · refine .inr ⟨h1, ?_, fun c m w => ?_⟩
    · have hl : 3 * n + j < out.length := by rw [h.least.len]; omega
      have hd : out[3 * n + j]? = some (o6 out n) := by
        rw [List.getD_eq_getElem?_getD, List.getElem?_eq_getElem hl] at h2
        rw [List.getElem?_eq_getElem hl]; exact congrArg some h2
      obtain ⟨c, m, w, e, h4, h5⟩ := h.least.way _ _ hd h1
      obtain ⟨_, a, ha, c0, L, hp, _, hc⟩ := OM h.cells w
      rw [show (3 * n + j) / 3 = n by omega] at hp
      exact ⟨c, m, ⟨a, ha, c0, L, hp, hc⟩, e, h4, h5⟩
    · obtain ⟨j, hj, h4, h5⟩ := reach c m w
      exact Int.le_trans (h3 j hj h4) h5
end Gr
end Go.Proofs.YtfjcgoiedlimdaaGreatDoor
namespace Go.Proofs.YtfjcgoiedlimdaaGreatDoor
open Go Go.RowKit
set_option linter.unusedVariables false
set_option linter.unusedSectionVars false
set_option linter.unusedSimpArgs false
def gK (g : Grid) (n : Nat) : Cell := ⟨((grG g).X n : Int), ((grG g).Y n : Int), ((grG g).Z n : Int)⟩
section
variable {g : Grid} {c : gy} {n m : Nat}
theorem Oh (hs : Sz g) : g.W = ((grG g).W : Int) := by have := hs.W; simp only [grG]; omega
theorem NU (hs : Sz g) : g.H = ((grG g).H : Int) := by have := hs.H; simp only [grG]; omega
theorem PK (hs : Sz g) : g.Layers = ((grG g).L : Int) := by have := hs.L; simp only [grG]; omega
theorem qP (hs : Sz g) (hn : n < (grG g).N) : inG g (gK g n) = true := by
  have hx := (grG g).NS hn
  have hy := (grG g).NC hn
  have hz := (grG g).Ny hn
  refine tu.2 ?_
  rw [Oh hs, NU hs, PK hs]
  unfold gK; simp only; omega
theorem jh (g : Grid) (n : Nat) : gq g (gK g n) = n := by
  unfold gq gK; simp only [Int.toNat_natCast]; exact (grG g).zY n
theorem xM (hs : Sz g) {a : Cell} (ha : inG g a = true) : gK g (gq g a) = a := by
  obtain ⟨a1, a2, a3⟩ := Aw hs ha
  obtain ⟨hx, hy, hz⟩ := tu.1 ha
  unfold gK
  rw [a1, a2, a3, Int.toNat_of_nonneg hx.1, Int.toNat_of_nonneg hy.1, Int.toNat_of_nonneg hz.1]
theorem HY (hs : Sz g) (hn : n < (grG g).N) {Q : Cell → Prop} (h : Q (gK g n)) : lI g (n : Int) Q := by
  have hW := hs.W; have hH := hs.H
  have hN := N9 hs
  have hw := Oh hs; have hh := NU hs
  have e0 : w64 ((n : Int).tdiv g.W) = ((n / (grG g).W : Nat) : Int) := by
    rw [hw, ← Int.ofNat_tdiv]; exact yj (Nat.le_trans (Nat.div_le_self _ _) (by omega))
  unfold lI
  refine ⟨by omega, by omega, by omega, by omega, by omega, ?_⟩
  have e1 : (n : Int).tmod g.W = ((grG g).X n : Int) := by rw [hw, ← Int.ofNat_tmod]; rfl
  have e2 : (w64 ((n : Int).tdiv g.W)).tmod g.H = ((grG g).Y n : Int) := by rw [e0, hh, ← Int.ofNat_tmod]; rfl
  have e3 : w64 ((w64 ((n : Int).tdiv g.W)).tdiv g.H) = ((grG g).Z n : Int) := by
    rw [e0, hh, ← Int.ofNat_tdiv]; exact yj (Nat.le_trans (Nat.div_le_self _ _) (Nat.le_trans (Nat.div_le_self _ _) (by omega)))
  rw [e1, e2, e3]; exact h
theorem Ja {al : Int} (h : (grG g).Nb n m al) : axC (gK g n) (gK g m) = al := by
  unfold axC df gK
  simp only
  have h2 := h.2.2
  rcases h2 with ⟨rfl, h3, h4, h5⟩ | ⟨rfl, h3, h4, h5⟩ | ⟨rfl, h3, h4, h5⟩
  · rw [if_pos (by omega)]
  · rw [if_neg (by omega), if_pos (by omega)]
  · rw [if_neg (by omega), if_neg (by omega), if_pos (by omega)]
end
theorem Least.uniq {E : Nat → List (Nat × Int)} {S : List Nat} {N : Nat} {out out' : List Int} (h : Least E S N out) (h' : Least E S N out') : out = out' := by
  apply List.ext_getElem?
  intro i
  rcases Nat.lt_or_ge i N with hi | hi
  · have e1 : out[i]? = some (out[i]'(by rw [h.len]; exact hi)) := List.getElem?_eq_getElem _
    have e2 : out'[i]? = some (out'[i]'(by rw [h'.len]; exact hi)) := List.getElem?_eq_getElem _
    rw [e1, e2, h.eq h' (fun c n => Iff.rfl) e1 e2]
  · rw [List.getElem?_eq_none (by rw [h.len]; exact hi), List.getElem?_eq_none (by rw [h'.len]; exact hi)]
section
variable {g : Grid} {c : gy}
theorem KU (hg : GOk g) (hc : COk c) {S : List Nat} (hS : ∀ a ∈ S, a < (grG g).N ∧ (grC g c).no a = false) {out : List Int} (h : Least ((grC g c).E false) (S.map (3 * ·)) (3 * (grC g c).N) out) : (grC g c).CJ S out := ⟨(uo hg hc).ok, hS, h⟩
theorem yS (hg : GOk g) {a : Cell} (ha : inG g a = true ∧ a ∉ g.Blocked) : gq g a < (grG g).N ∧ (grC g c).no (gq g a) = false := by
  refine ⟨oK hg.sz ha.1, ?_⟩
  show (kS g).getD (gq g a) true = false
  rw [List.getD_eq_getElem?_getD, Ba hg ha.1]
  simp [ha.2]
theorem Qq {f : eX} (hf : rf f) {S : List Nat} (hnd : S.Nodup) (hlt : ∀ a ∈ S, a < (gu f).N) {Q : List Int → Prop} (h : ∀ out, Least ((gu f).E false) (S.map (3 * ·)) (3 * (gu f).N) out → Q out) : uD f (S.map (fun n : Nat => (n : Int))) Q := by
  have hN := hf.N
  have hl : S.length ≤ (gu f).N := jT _ _ hnd hlt
  unfold uD
  refine jO (fun k (l : List Int) => l = (S.take k).map (fun n : Nat => ((3 * n : Nat) : Int))) (by simp) (fun k x l hx hI next hn => ?_) (fun l hI => ?_)
  · rw [List.getElem?_map] at hx
    obtain ⟨n, hn2, rfl⟩ := Option.map_eq_some_iff.1 hx
    have hnl := hlt n (List.mem_of_getElem? hn2)
    have hk := dO hn2
    unfold qf
    subst hI
    rw [show w64 (3 * (n : Int)) = ((3 * n : Nat) : Int) by rw [fO] <;> omega]
    refine ⟨uJ (by simp only [List.length_append, List.length_map, List.length_take, List.length_singleton]; omega) (by decide), hn _ ?_⟩
    rw [List.take_add_one, hn2, List.map_append]; rfl
  · have := Ko (f := f) (back := false) (Sn := S.map (3 * ·)) hf (List.pairwise_map.2 (hnd.imp (fun h e => h (by omega)))) (fun s hs => by obtain ⟨a, ha, rfl⟩ := List.mem_map.1 hs; have := hlt a ha; omega) h
    rw [List.map_map] at this
    rw [List.length_map, List.take_length] at hI
    rw [hI]; exact this
end
end Go.Proofs.YtfjcgoiedlimdaaGreatDoor
namespace Go.Proofs.YtfjcgoiedlimdaaGreatDoor
open Tryz Go Go.RowKit
set_option linter.unusedVariables false
set_option linter.unusedSectionVars false
set_option linter.unusedSimpArgs false
def oH (xk1 : Int) (n2 : Int) (next1 : Int → Prop) (c1 : Bool) : Prop :=
  cnd c1 (next1 xk1) (next1 n2)
def og  (k1 : Nat) (xk1 : Int) (n2 : Int) (next1 : Int → Prop) : Prop :=
  cnd (decide (xk1 ≥ 0)) (cnd (decide (n2 < 0)) (oH xk1 n2 next1 true) (oH xk1 n2 next1 (decide (xk1 < n2)))) (oH xk1 n2 next1 false)
def uZ (keys : (List Int)) (n : Int) (Q : Int → Prop) : Prop :=
  must (0 ≤ w64 (3 * n) ∧ w64 (3 * n) ≤ w64 ((w64 (3 * n)) + 3) ∧ w64 ((w64 (3 * n)) + 3) ≤ (keys.length : Int)) (forIn' (fun k x (s : Int) next => og k x s (fun n2 => next n2)) (fun (s : Int) => (fun (n2 : Int) => Q n2) s) (seg keys (w64 (3 * n)) (w64 ((w64 (3 * n)) + 3))) 0 (-1))
set_option maxHeartbeats 1000000 in
theorem IV (c : (List Int)) (n : Int) (z : World) (i : Option Addr) (d : Nat) (j : View z (old z none_) i d c) (Q : Int → Prop) (h : uZ c n Q) :
  Ret Tryz.prog 59 #[.slice i c.length d, iv n] z fun v T => ∃ (P : Int), v = iv P ∧ Q P ∧ Sat z none_ [] T := by
 refine fF func59 Z ntmps59 Z (fs := [(0, _), (1, _)]) Z (fun a b => ?_);have g := Sat.start z none_;unfold uZ at h;refine Yl b <| Sq (iv 0) Z <| Xn <| Xl <| Sq (iv (-1)) Z <| Xn <| Ws <| Xl <| Sq (.slice i c.length d) Z <| Sq (iv n) Z <| Sq (iv (w64 (3 * n))) Z <| Sq (iv n) Z <| Sq (iv (w64 (3 * n))) Z <| Sq (iv (w64 ((w64 (3 * n)) + 3))) Z fun a b => ?_;obtain ⟨t, h⟩ := h;refine Al b <| Sv g (.slice (xg i d (w64 (3 * n) : Int).toNat 1) (seg c (w64 (3 * n)) (w64 ((w64 (3 * n)) + 3))).length (d - (w64 (3 * n) : Int).toNat)) Z (V.slice Z Z Z Z ai aa Z Z t j.cap (seg_length (by have := t.2.2; omega))) <| Sv g (iv ((seg c (w64 (3 * n)) (w64 ((w64 (3 * n)) + 3))).length : Int)) Z (V.len Z Z ai) <| Sq (iv 0) Z fun a b => X.n (wp_block ?_);have u := (View.sub j t).iY;refine C.range (fun (K : List Int) a w => ∃ (m : Nat) (f : Int), (seg c (w64 (3 * n)) (w64 ((w64 (3 * n)) + 3))).drop m = K ∧ m + K.length = (seg c (w64 (3 * n)) (w64 ((w64 (3 * n)) + 3))).length ∧ forIn' (fun k x (s : Int) next => og k x s (fun f => next f)) (fun (s : Int) => (fun (f : Int) => Q f) s) K m f ∧ eU 34 [(16, iv (m : Int)), (5, iv f), (14, .slice (xg i d (w64 (3 * n) : Int).toNat 1) (seg c (w64 (3 * n)) (w64 ((w64 (3 * n)) + 3))).length (d - (w64 (3 * n) : Int).toNat)), (15, iv ((seg c (w64 (3 * n)) (w64 ((w64 (3 * n)) + 3))).length : Int))] a ∧ Sat z none_ [] w) (seg c (w64 (3 * n)) (w64 ((w64 (3 * n)) + 3))) ⟨0, (-1), Z, Nat.zero_add _, h, (b.pk Z), g⟩ ?_;clear h b g;rintro r a w ⟨m, f, A, o, h, b, g⟩
 cases r with
 | nil =>
  have I := fQ o;replace h := fzx h;refine Yl b <| Sv g (.bool false) Z (V.cmp false Z Z Z Z I) fun a b => X.n (wp_seq (C.no b Z (wp_exit (X.eG (X.eG (X.fG (X.eF (Yl b <| Sq (iv f) Z <| Sq (iv f) Z fun a b => X.n (wp_ret ?_)))))))));exact Lr b results59 Z ⟨f, Z, h, g.nil⟩
 | cons e r =>
  have F := gJ o; have I := gQ o; have B := gm A;obtain ⟨G, y, h⟩ := uN h;replace h : og m e f G := h;unfold og at h;refine Yl b <| Sv g (.bool true) Z (V.cmp true Z Z Z Z I) fun a b => X.n (wp_seq (C.yes b Z (wp_skip (X.eF (wp_seq (wp_block (Yl b <| Sv g (eP (xg i d (w64 (3 * n) : Int).toNat 1) (m * 1)) Z (V.index Z Z Z ai aa ((View.sub j t).some_ (dO B)) (Int.natCast_nonneg _) (dO B) Z) <| Sv g (iv e) Z (V.gX (off := 0) (Ag.args _ _ _) ((View.sub j t).flat B) Z Z Z ab aa Z Z) <| Sq (iv e) Z fun a b => X.n (wp_seq ?_))))))));refine C.cut (J := fun a w => ∃ (O : Bool), oH e f G O ∧ eU 34 [(5, iv f), (7, iv e), (14, .slice (xg i d (w64 (3 * n) : Int).toNat 1) (seg c (w64 (3 * n)) (w64 ((w64 (3 * n)) + 3))).length (d - (w64 (3 * n) : Int).toNat)), (15, iv ((seg c (w64 (3 * n)) (w64 ((w64 (3 * n)) + 3))).length : Int)), (16, iv (m : Int)), (30, .bool O)] a ∧ Sat z none_ [] w) ?_ ?_
  ·rintro a w ⟨O, h, b, g⟩;unfold oH at h;refine Ci b h Z (fun _ h => ?_) fun _ h => ?_
   ·refine Rm b <| Sq (iv e) Z <| Sq (iv e) Z fun a b => R.nil (X.blk (X.eF (Rm b <| Sv g (iv ((m + 1 : Nat) : Int)) Z (V.jf Z Z Z F u) <| Sq (iv ((m + 1 : Nat) : Int)) Z fun a b => X.n ?_)));exact ⟨e, r, Z, m + 1, e, fD A, fJ o, (by rw [y] at h; exact h), (b.pk Z), g⟩
   ·refine wp_skip (X.blk (X.eF (Rm b <| Sv g (iv ((m + 1 : Nat) : Int)) Z (V.jf Z Z Z F u) <| Sq (iv ((m + 1 : Nat) : Int)) Z fun a b => X.n ?_)));exact ⟨e, r, Z, m + 1, f, fD A, fJ o, (by rw [y] at h; exact h), (b.pk Z), g⟩
  ·skip
   refine Rm b <| Sq (iv e) Z <| Sq (.bool (decide (e ≥ 0))) Z fun a b => ?_;refine Si b g h Z (V.pure Z) (fun I h a b => ?_) fun _ h a b => ?_
   ·refine Al b <| Sq (iv f) Z <| Sq (.bool (decide (f < 0))) Z fun a b => ?_;refine Si b g h Z (V.pure Z) (fun _ h a b => ?_) fun _ h a b => ?_
    ·refine Al b <| Sk Z <| Sk Z <| Sk Z <| Sq (.bool true) Z <| Sq (.bool true) Z fun a b => X.n ?_;exact ⟨true, h, (b.pk Z), g⟩
    ·refine Al b <| Sq (iv e) Z <| Sq (iv f) Z <| Sq (.bool (decide (e < f))) Z <| Sq (.bool (decide (e < f))) Z <| Sq (.bool (decide (e < f))) Z fun a b => X.n ?_;exact ⟨(decide (e < f)), h, (b.pk Z), g⟩
   ·refine Al b <| Sk Z <| Sk Z <| Sk Z <| Sk Z <| Sk Z <| Sk Z <| Sk Z <| Sq (.bool false) Z fun a b => X.n ?_;exact ⟨false, h, (b.pk Z), g⟩
section
variable {g : Grid} {c : gy}
theorem IZ {out : List Int} {n : Nat} (hn : 3 * n + 3 ≤ out.length) (hl : out.length ≤ 1000000) {Q : Int → Prop} (h : Q (Gr.o6 out n)) : uZ out (n : Int) Q := by
  unfold uZ
  rw [show w64 (3 * (n : Int)) = ((3 * n : Nat) : Int) by rw [fO] <;> omega, show w64 (((3 * n : Nat) : Int) + 3) = ((3 * n + 3 : Nat) : Int) by rw [fO] <;> omega]
  refine ⟨⟨by omega, by omega, by omega⟩, ?_⟩
  have hseg : seg out ((3 * n : Nat) : Int) ((3 * n + 3 : Nat) : Int) = [out.getD (3 * n) (-1), out.getD (3 * n + 1) (-1), out.getD (3 * n + 2) (-1)] := by
    have e : ∀ j, j < 3 → out[3 * n + j]? = some (out.getD (3 * n + j) (-1)) := fun j hj => by
      rw [List.getD_eq_getElem?_getD, List.getElem?_eq_getElem (show 3 * n + j < out.length by omega)]; rfl
    unfold seg
    apply List.ext_getElem?
    intro i
    simp only [Int.toNat_natCast]
    rw [List.getElem?_drop, List.getElem?_take]
    rcases (show i = 0 ∨ i = 1 ∨ i = 2 ∨ 3 ≤ i by omega) with rfl | rfl | rfl | hi
    · rw [if_pos (by omega), e 0 (by omega)]; rfl
    · rw [if_pos (by omega), e 1 (by omega)]; rfl
    · rw [if_pos (by omega), e 2 (by omega)]; rfl
    · rw [if_neg (by omega), List.getElem?_eq_none (by simpa using hi)]
  rw [hseg]
  have one : ∀ (k : Nat) (x b : Int) (next : Int → Prop), next (Gr.lk b x) → og k x b next := fun k x b next hn => by
    unfold Gr.lk at hn
    unfold og oH
    refine fB (fun e => fB (fun e2 => ?_) (fun e2 => ?_)) (fun e => ?_)
    · simp only [iJ]; rw [if_pos ⟨by simpa using e, .inl (by simpa using e2)⟩] at hn; exact hn
    · refine fB (fun e3 => ?_) (fun e3 => ?_)
      · rw [if_pos ⟨by simpa using e, .inr (by simpa using e3)⟩] at hn; exact hn
      · rw [if_neg (fun hh => by simp at e2 e3; omega)] at hn; exact hn
    · simp only [gY]; rw [if_neg (fun hh => by simp at e; omega)] at hn; exact hn
  exact one 0 _ _ _ (one 1 _ _ _ (one 2 _ _ _ h))
theorem Il (hg : GOk g) {S : List Nat} {out : List Int} (h : (grC g c).CJ S out) (hS : ∀ s ∈ S.map (3 * ·), s < 3 * (grG g).N) {n : Nat} (hn : n < (grG g).N) : -1 ≤ Gr.o6 out n ∧ Gr.o6 out n ≤ 400000000000000 := by
  have hN := hg.N
  have hkB : kB = 1048576 := rfl
  rcases Gr.DC out n with ⟨h1, _⟩ | ⟨h1, ⟨j, hj, h2⟩, _⟩
  · omega
  · have hl : 3 * n + j < out.length := by rw [h.least.len]; show _ < 3 * (grG g).N; omega
    have hd : out[3 * n + j]? = some (Gr.o6 out n) := by
      rw [List.getD_eq_getElem?_getD, List.getElem?_eq_getElem hl] at h2
      rw [List.getElem?_eq_getElem hl]; exact congrArg some h2
    obtain ⟨k, m, w, e, h3, h4⟩ := h.least.way _ _ hd h1
    have hle := Wk.le (h.ok.good false) hS w
    have h5 : m < 3 * (grG g).N := h4
    rw [hkB] at e; omega
end
end Go.Proofs.YtfjcgoiedlimdaaGreatDoor

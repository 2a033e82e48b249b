/- Chapter texts of ours, as far as the claim needs them. -/
import Derived.Test.YtihjaehkdgdenaaGreatDoorWalks
namespace Go.Proofs.YtihjaehkdgdenaaGreatDoor
open Go Go.RowKit
set_option linter.unusedVariables false
set_option linter.unusedSectionVars false
set_option linter.unusedSimpArgs false
namespace Gr
variable {G : Gr}
theorem E_flip {s t : Nat} {k : Int} (hs : s < 3 * G.N) (fs : G.no (s / 3) = false) (h : (t, k) ∈ G.E true s) : t < 3 * G.N ∧ G.no (t / 3) = false ∧ (s, k) ∈ G.E false t := by
  obtain ⟨m, al, hnb, hm, hel⟩ := (mem_E hs).1 h
  have hmN := hnb.2.1
  have hax := Nb.ax hnb
  unfold el at hel
  simp only at hel
  by_cases h3 : al = 3
  · subst h3
    simp only [if_true, List.mem_singleton] at hel
    injection hel with e1 e2
    subst e1; subst e2
    have et : (3 * m + s % 3) / 3 = m := by omega
    refine ⟨by omega, by rw [et]; exact hm, (mem_E (by omega)).2 ⟨s / 3, 3, ?_, fs, ?_⟩⟩
    · rw [et]; exact Nb.symm G hnb
    · unfold el; simp only [if_true, List.mem_singleton]; rw [show (3 * m + s % 3) % 3 = s % 3 by omega, show 3 * (s / 3) + s % 3 = s by omega]
  · rw [if_neg h3, if_pos trivial] at hel
    split at hel
    · rename_i h4
      have key : ∀ j : Nat, j < 3 → t = 3 * m + j → k = G.base (s / 3) al + G.tn (j : Int) al → t < 3 * G.N ∧ G.no (t / 3) = false ∧ (s, k) ∈ G.E false t := by
        intro j hj ht hk
        have et : t / 3 = m := by omega
        refine ⟨by omega, by rw [et]; exact hm, (mem_E (by omega)).2 ⟨s / 3, al, ?_, fs, ?_⟩⟩
        · rw [et]; exact Nb.symm G hnb
        · unfold el; simp only
          rw [if_neg h3, if_neg (by simp), List.mem_singleton, et, show t % 3 = j by omega, ← Nb.base G hnb, ← hk, show 3 * (s / 3) + al.toNat = s by omega]
      simp only [List.mem_cons, List.not_mem_nil, or_false, Prod.mk.injEq] at hel
      rcases hel with ⟨e1, e2⟩ | ⟨e1, e2⟩ | ⟨e1, e2⟩
      · exact key 0 (by omega) (by omega) e2
      · exact key 1 (by omega) e1 e2
      · exact key 2 (by omega) e1 e2
    · cases hel
theorem E_on {s t : Nat} {k : Int} (hs : s < 3 * G.N) (h : (t, k) ∈ G.E false s) : ∃ al, G.Nb (s / 3) (t / 3) al ∧ G.no (t / 3) = false ∧ t % 3 = (if al = 3 then s % 3 else al.toNat) ∧ k = (if al = 3 then G.via else G.base (t / 3) al + G.tn ((s % 3 : Nat) : Int) al) := by
  obtain ⟨m, al, hnb, hm, hel⟩ := (mem_E hs).1 h
  have hax := Nb.ax hnb
  unfold el at hel
  simp only at hel
  by_cases h3 : al = 3
  · subst h3
    simp only [if_true, List.mem_singleton] at hel
    injection hel with e1 e2
    have et : t / 3 = m := by omega
    exact ⟨3, by rw [et]; exact hnb, by rw [et]; exact hm, by rw [if_pos rfl]; omega, by rw [if_pos rfl]; exact e2⟩
  · rw [if_neg h3, if_neg (by simp), List.mem_singleton] at hel
    injection hel with e1 e2
    have et : t / 3 = m := by omega
    exact ⟨al, by rw [et]; exact hnb, by rw [et]; exact hm, by rw [if_neg h3]; omega, by rw [if_neg h3, et, ← Nb.base G hnb]; exact e2⟩
theorem on_E {s m : Nat} {al : Int} (hs : s < 3 * G.N) (hnb : G.Nb (s / 3) m al) (hm : G.no m = false) : (3 * m + (if al = 3 then s % 3 else al.toNat), if al = 3 then G.via else G.base m al + G.tn ((s % 3 : Nat) : Int) al) ∈ G.E false s := by
  refine (mem_E hs).2 ⟨m, al, hnb, hm, ?_⟩
  unfold el
  simp only
  by_cases h3 : al = 3
  · simp only [if_pos h3, List.mem_singleton]
  · rw [if_neg h3, if_neg h3, if_neg h3, if_neg (by simp), List.mem_singleton, Nb.base G hnb]
theorem E_turn {s t : Nat} {k : Int} (hs : s < 3 * G.N) (fs : G.no (s / 3) = false) (h : (t, k) ∈ G.E false s) : t < 3 * G.N ∧ G.no (t / 3) = false ∧ (s, k) ∈ G.E true t := by
  obtain ⟨al, hnb, hm, h1, h2⟩ := E_on hs h
  have hmN := hnb.2.1
  have hax := Nb.ax hnb
  have ht : t < 3 * G.N := by omega
  refine ⟨ht, hm, (mem_E ht).2 ⟨s / 3, al, Nb.symm G hnb, fs, ?_⟩⟩
  unfold el
  simp only
  by_cases h3 : al = 3
  · rw [if_pos h3] at h1 h2 ⊢
    rw [h1, h2, show 3 * (s / 3) + s % 3 = s by omega]; exact List.mem_singleton.2 rfl
  · rw [if_neg h3] at h1 h2 ⊢
    rw [if_pos trivial, if_pos (by omega), h2]
    have hj : s % 3 = 0 ∨ s % 3 = 1 ∨ s % 3 = 2 := by omega
    simp only [List.mem_cons, List.not_mem_nil, or_false, Prod.mk.injEq]
    rcases hj with hj | hj | hj <;> rw [hj]
    · exact .inl ⟨by omega, rfl⟩
    · exact .inr (.inl ⟨by omega, rfl⟩)
    · exact .inr (.inr ⟨by omega, rfl⟩)
theorem E_cost (ok : G.Ok) {s t : Nat} {k : Int} (hs : s < 3 * G.N) (h : (t, k) ∈ G.E false s) : 1 ≤ k ∧ k ≤ 3000 := by
  obtain ⟨al, hnb, hm, h1, h2⟩ := E_on hs h
  have b := ok.base (t / 3) al
  have tn := ok.tn ((s % 3 : Nat) : Int) al
  have := ok.via
  split at h2 <;> omega
inductive Steps (G : Gr) : Nat → List Nat → Int → Nat → Prop
  | nil {s : Nat} : Steps G s [] 0 s
  | cons {s t : Nat} {k : Int} {l : List Nat} {c : Int} {e : Nat} : (t, k) ∈ G.E false s → Steps G t l c e → Steps G s (t :: l) (k + c) e
theorem Steps.cost (ok : G.Ok) {s : Nat} {l : List Nat} {c : Int} {e : Nat} (h : G.Steps s l c e) (hs : s < 3 * G.N) : (l.length : Int) ≤ c ∧ e < 3 * G.N ∧ (∀ t ∈ l, t < 3 * G.N ∧ G.no (t / 3) = false) ∧ (G.no (s / 3) = false → G.no (e / 3) = false) := by
  induction h with
  | nil => exact ⟨by simp, hs, fun t ht => (by cases ht), id⟩
  | cons he _ ih =>
    have hk := E_cost ok hs he
    obtain ⟨al, hnb, hm, h1, h2⟩ := E_on hs he
    have ht := hnb.2.1
    have i := ih (by omega)
    refine ⟨by simp only [List.length_cons]; omega, i.2.1, fun u hu => ?_, fun _ => i.2.2.2 hm⟩
    rcases List.mem_cons.1 hu with hu | hu
    · subst hu; exact ⟨by omega, hm⟩
    · exact i.2.2.1 u hu
theorem Steps.turn (ok : G.Ok) {s : Nat} {l : List Nat} {c : Int} {e : Nat} (h : G.Steps s l c e) (hs : s < 3 * G.N) (h0 : s % 3 ≠ 0) (h1 : e % 3 ≠ s % 3) : G.turn + 1 ≤ c := by
  induction h with
  | nil => exact absurd rfl h1
  | @cons s t k l c e he hr ih =>
    have hk := E_cost ok hs he
    obtain ⟨al, hnb, hm, h2, h3⟩ := E_on hs he
    have ht := hnb.2.1
    have hax := Nb.ax hnb
    have hc := (hr.cost ok (by omega)).1
    by_cases ha : al = 3
    · rw [if_pos ha] at h2
      have := ih (by omega) (by omega) (by omega)
      omega
    · rw [if_neg ha] at h2 h3
      by_cases hb : al = ((s % 3 : Nat) : Int)
      · have := ih (by omega) (by omega) (by omega)
        omega
      · unfold tn at h3
        rw [if_pos ⟨by omega, fun e => hb e.symm⟩] at h3
        have b := ok.base (t / 3) al
        omega
theorem Steps.walk {s : Nat} {l : List Nat} {c : Int} {e : Nat} (h : G.Steps s l c e) (hs : s < 3 * G.N) (fs : G.no (s / 3) = false) {S : List Nat} (he : e ∈ S) : Wk (G.E true) S s c l.length := by
  induction h with
  | nil => exact .start he
  | cons hed hr ih =>
    obtain ⟨h1, h2, h3⟩ := E_turn hs fs hed
    have := (ih h1 h2 he).step h3
    rw [Int.add_comm]; exact this
theorem trn_near (ok : G.Ok) (i j : Int) (L : List Int) : G.trn i L ≤ G.trn j L + G.turn ∧ G.trn 0 L ≤ G.trn j L := by
  cases L with
  | nil => have := ok.turn; simp only [trn]; omega
  | cons a r =>
    have h1 := ok.tn i a
    have h2 := ok.tn j a
    have h3 := G.tn_zero a
    have h4 : G.tn i a ≤ G.turn := by unfold tn; have := ok.turn; split <;> omega
    simp only [trn]; omega
structure ToGoal (G : Gr) (b : Nat) (out : List Int) : Prop where
  ok : G.Ok
  lt : b < G.N
  free : G.no b = false
  least : Least (G.E true) [3 * b, 3 * b + 1, 3 * b + 2] (3 * G.N) out
variable {b : Nat} {out : List Int}
theorem ToGoal.free_of (h : G.ToGoal b out) {s : Nat} {d : Int} (hd : out[s]? = some d) (h0 : 0 ≤ d) : s < 3 * G.N ∧ G.no (s / 3) = false := by
  obtain ⟨c, n, w, _⟩ := h.least.way s d hd h0
  obtain ⟨h1, _, _, hp, _⟩ := walk_back h.lt h.free w
  exact ⟨h1, (Pth.ends G hp).2.2.1⟩
theorem ToGoal.next (h : G.ToGoal b out) {s : Nat} {d : Int} (hd : out[s]? = some d) (h0 : 0 < d) : ∃ e ∈ G.E false s, ∃ d', out[e.1]? = some d' ∧ 0 ≤ d' ∧ d' + (e.2 * kB + 1) = d := by
  have hkB : kB = 1048576 := rfl
  obtain ⟨c, n, w, e, hc, hn⟩ := h.least.way s d hd (by omega)
  cases w with
  | start hs => simp at e; omega
  | @step s' c' n' _ k w' he =>
    obtain ⟨h1, _, _, hp, _⟩ := walk_back h.lt h.free w'
    obtain ⟨_, _, h3⟩ := E_flip h1 (Pth.ends G hp).2.2.1 he
    obtain ⟨d', hd', hd0, hd1⟩ := h.least.min _ _ _ w'
    obtain ⟨c2, n2, w2, e2, _, _⟩ := h.least.way _ _ hd' hd0
    obtain ⟨d3, hd3, _, h4⟩ := h.least.min _ _ _ (w2.step he)
    rw [hd] at hd3; injection hd3 with hd3; subst hd3
    refine ⟨_, h3, d', hd', hd0, ?_⟩
    simp only
    rw [Int.add_mul] at h4 e
    push_cast at h4 e
    omega
def pick (out : List Int) (d : Int) (l : List (Nat × Int)) : Option (Nat × Int) := l.find? (fun e => decide (0 ≤ out.getD e.1 (-1)) && decide (out.getD e.1 (-1) + (e.2 * kB + 1) = d))
inductive Goes (G : Gr) (out : List Int) : Nat → List Nat → Prop
  | stop {s : Nat} {d : Int} : out[s]? = some d → d = 0 → Goes G out s []
  | step {s t : Nat} {d k : Int} {l : List Nat} : out[s]? = some d → 0 < d → pick out d (G.E false s) = some (t, k) → Goes G out t l → Goes G out s (t :: l)
theorem getD_some {l : List Int} {n : Nat} {x d : Int} (h : l[n]? = some x) : l.getD n d = x := by rw [List.getD_eq_getElem?_getD, h]; rfl
theorem pick_some {d k : Int} {t : Nat} {l : List (Nat × Int)} (h : pick out d l = some (t, k)) : (t, k) ∈ l ∧ ∃ d', out[t]? = some d' ∧ 0 ≤ d' ∧ d' + (k * kB + 1) = d := by
  have h1 := List.mem_of_find?_eq_some h
  have h2 := List.find?_some h
  simp only [Bool.and_eq_true, decide_eq_true_eq] at h2
  refine ⟨h1, ?_⟩
  cases hq : out[t]? with
  | none => rw [List.getD_eq_getElem?_getD, hq] at h2; simp at h2
  | some d' => rw [getD_some hq] at h2; exact ⟨d', rfl, h2⟩
theorem ToGoal.pick (h : G.ToGoal b out) {s : Nat} {d : Int} (hd : out[s]? = some d) (h0 : 0 < d) : ∃ t k, pick out d (G.E false s) = some (t, k) := by
  obtain ⟨e, he, d', h1, h2, h3⟩ := h.next hd h0
  cases hq : Gr.pick out d (G.E false s) with
  | some p => exact ⟨p.1, p.2, rfl⟩
  | none =>
    have := List.find?_eq_none.1 hq e he
    rw [getD_some h1] at this
    simp [h2, h3] at this
theorem ToGoal.goes (h : G.ToGoal b out) : ∀ (m : Nat) (s : Nat) (d : Int), out[s]? = some d → 0 ≤ d → d.toNat ≤ m → ∃ l, G.Goes out s l := by
  have hkB : kB = 1048576 := rfl
  intro m
  induction m with
  | zero => intro s d hd h0 hm; exact ⟨[], .stop hd (by omega)⟩
  | succ m ih =>
    intro s d hd h0 hm
    by_cases hz : d = 0
    · exact ⟨[], .stop hd hz⟩
    · obtain ⟨t, k, hp⟩ := h.pick hd (by omega)
      obtain ⟨he, d', h1, h2, h3⟩ := pick_some hp
      have hk := E_cost h.ok (h.free_of hd h0).1 he
      obtain ⟨l, hl⟩ := ih t d' h1 h2 (by rw [hkB] at h3; omega)
      exact ⟨t :: l, .step hd (by omega) hp hl⟩
theorem Goes.det {s : Nat} {l l' : List Nat} (h : G.Goes out s l) (h' : G.Goes out s l') : l = l' := by
  induction h generalizing l' with
  | stop hd h0 =>
    cases h' with
    | stop _ _ => rfl
    | step hd' h1 _ _ => rw [hd] at hd'; injection hd' with hd'; omega
  | step hd h0 hp _ ih =>
    cases h' with
    | stop hd' h1 => rw [hd] at hd'; injection hd' with hd'; omega
    | step hd' h1 hp' hg =>
      rw [hd] at hd'; injection hd' with hd'; subst hd'
      rw [hp] at hp'; injection hp' with hp'; injection hp' with e1 e2; subst e1
      rw [ih hg]
theorem Goes.steps {s : Nat} {l : List Nat} (h : G.Goes out s l) {d : Int} (hd : out[s]? = some d) : ∃ c e, G.Steps s l c e ∧ d = c * kB + l.length ∧ out[e]? = some 0 := by
  induction h generalizing d with
  | @stop s d2 hd2 h0 => rw [hd] at hd2; injection hd2 with hd2; subst hd2; subst h0; exact ⟨0, _, .nil, by simp, hd⟩
  | step hd2 h0 hp hg ih =>
    rw [hd] at hd2; injection hd2 with hd2; subst hd2
    obtain ⟨he, d', h1, h2, h3⟩ := pick_some hp
    obtain ⟨c, e, h4, h5, h6⟩ := ih h1
    exact ⟨_, e, .cons he h4, by rw [Int.add_mul]; simp only [List.length_cons]; push_cast; omega, h6⟩
theorem ToGoal.end_ (h : G.ToGoal b out) {e : Nat} (he : out[e]? = some 0) : e ∈ [3 * b, 3 * b + 1, 3 * b + 2] := by
  have hkB : kB = 1048576 := rfl
  obtain ⟨c, n, w, h1, h2, _⟩ := h.least.way e 0 he (Int.le_refl _)
  cases w with
  | start hs => exact hs
  | step _ _ => rw [hkB] at h1; push_cast at h1; omega
theorem ToGoal.no_return (h : G.ToGoal b out) {s u : Nat} {l : List Nat} {c d d' : Int} (hst : G.Steps s l c u) (hl : l ≠ []) (hsu : u / 3 = s / 3) (hd : out[s]? = some d) (h0 : 0 ≤ d) (hd' : out[u]? = some d') (h0' : 0 ≤ d') (he : d = d' + (c * kB + l.length)) : False := by
  have hkB : kB = 1048576 := rfl
  have hs := h.free_of hd h0
  have hu := h.free_of hd' h0'
  have hc := hst.cost h.ok hs.1
  have hll : 0 < l.length := List.length_pos_iff.2 hl
  -- the way of u as a way of s
  obtain ⟨cu, n, w, eu, _, _⟩ := h.least.way u d' hd' h0'
  obtain ⟨_, c0, L, hp, hcu⟩ := walk_back h.lt h.free w
  have hw := way_back (Pth.rev G hp) (s % 3) (by omega)
  rw [List.reverse_reverse, hsu, show 3 * (s / 3) + s % 3 = s by omega] at hw
  obtain ⟨d2, hd2, _, hm⟩ := h.least.min _ _ _ hw
  rw [hd] at hd2; injection hd2 with hd2; subst hd2
  have hn := trn_near h.ok ((s % 3 : Nat) : Int) ((u % 3 : Nat) : Int) L
  rw [hcu] at eu
  by_cases e1 : u % 3 = s % 3
  · have : u = s := by omega
    subst this
    rw [hd] at hd'; injection hd' with hd'
    rw [hkB] at he; omega
  · by_cases e2 : s % 3 = 0
    · rw [e2] at hm
      have h2 : G.trn ((0 : Nat) : Int) L ≤ G.trn ((u % 3 : Nat) : Int) L := hn.2
      have hc1 := hc.1
      clear hn hc
      generalize G.trn ((0 : Nat) : Int) L = A at *
      generalize G.trn ((u % 3 : Nat) : Int) L = B at *
      rw [hkB] at hm eu he; omega
    · have ht := hst.turn h.ok hs.1 e2 e1
      have h2 := hn.1
      have hc1 := hc.1
      clear hn hc
      generalize G.trn ((s % 3 : Nat) : Int) L = A at *
      generalize G.trn ((u % 3 : Nat) : Int) L = B at *
      rw [hkB] at hm eu he; omega
theorem Goes.mem {s : Nat} {l : List Nat} (h : G.Goes out s l) {d : Int} (hd : out[s]? = some d) : ∀ u ∈ l, ∃ pre c d', pre ≠ [] ∧ G.Steps s pre c u ∧ out[u]? = some d' ∧ 0 ≤ d' ∧ d = d' + (c * kB + pre.length) := by
  induction h generalizing d with
  | stop _ _ => intro u hu; cases hu
  | @step s t d2 k l hd2 h0 hp hg ih =>
    rw [hd] at hd2; injection hd2 with hd2; subst hd2
    obtain ⟨he, d', h1, h2, h3⟩ := pick_some hp
    intro u hu
    rcases List.mem_cons.1 hu with hu | hu
    · subst hu; exact ⟨[u], k + 0, d', by simp, .cons he .nil, h1, h2, by simp only [List.length_cons, List.length_nil, Int.add_zero]; omega⟩
    · obtain ⟨pre, c, d3, _, h5, h6, h7, h8⟩ := ih h1 u hu
      exact ⟨t :: pre, k + c, d3, by simp, .cons he h5, h6, h7, by rw [Int.add_mul]; simp only [List.length_cons]; push_cast; omega⟩
theorem ToGoal.nodup (h : G.ToGoal b out) {s : Nat} {l : List Nat} (hg : G.Goes out s l) {d : Int} (hd : out[s]? = some d) (h0 : 0 ≤ d) : ((s :: l).map (· / 3)).Nodup := by
  induction hg generalizing d with
  | stop _ _ => simp
  | @step s t d2 k l hd2 h02 hp hg ih =>
    rw [hd] at hd2; injection hd2 with hd2; subst hd2
    obtain ⟨he, d', h1, h2, h3⟩ := pick_some hp
    have hn := ih h1 h2
    rw [List.map_cons, List.nodup_cons]
    refine ⟨fun hm => ?_, hn⟩
    obtain ⟨u, hu, e⟩ := List.mem_map.1 hm
    obtain ⟨pre, c, d3, hpre, hst, h6, h7, h8⟩ := (Goes.step hd h02 hp hg).mem hd u hu
    exact h.no_return hst hpre e hd h0 h6 h7 h8
def IsMin (M : Nat) (P : Int → Nat → Prop) (d : Int) : Prop := (d = -1 ∧ ∀ c n, ¬ P c n) ∨ (0 ≤ d ∧ (∃ c n, P c n ∧ d = c * kB + n ∧ 0 ≤ c ∧ n < M) ∧ ∀ c n, P c n → d ≤ c * kB + n)
theorem IsMin.eq {M M' : Nat} {P P' : Int → Nat → Prop} {d d' : Int} (h : IsMin M P d) (h' : IsMin M' P' d') (hp : ∀ c n, P c n ↔ P' c n) : d = d' := by
  rcases h with ⟨h1, h2⟩ | ⟨h1, ⟨c, n, h2, h3, _, _⟩, h4⟩
  · rcases h' with ⟨g1, g2⟩ | ⟨g1, ⟨c, n, g2, _⟩, _⟩
    · omega
    · exact absurd ((hp _ _).2 g2) (h2 _ _)
  · rcases h' with ⟨g1, g2⟩ | ⟨g1, ⟨c', n', g2, g3, _, _⟩, g4⟩
    · exact absurd ((hp _ _).1 h2) (g2 _ _)
    · have a := h4 _ _ ((hp _ _).2 g2)
      have b := g4 _ _ ((hp _ _).1 h2)
      omega
theorem ToGoal.isMin (h : G.ToGoal b out) {a : Nat} {d : Int} (hd : out[3 * a]? = some d) : IsMin (3 * G.N) (G.Way a b) d := by
  have hlow := h.least.low _ d hd
  by_cases h0 : 0 ≤ d
  · obtain ⟨c, n, w, e, h1, h2⟩ := h.least.way _ d hd h0
    refine .inr ⟨h0, ⟨c, n, (back_iff h.lt h.free).1 w, e, h1, h2⟩, fun c' n' w' => ?_⟩
    obtain ⟨d2, hd2, _, h3⟩ := h.least.min _ _ _ ((back_iff h.lt h.free).2 w')
    rw [hd] at hd2; injection hd2 with hd2; subst hd2; exact h3
  · refine .inl ⟨by omega, fun c n w => ?_⟩
    obtain ⟨d2, hd2, h3, _⟩ := h.least.min _ _ _ ((back_iff h.lt h.free).2 w)
    rw [hd] at hd2; injection hd2 with hd2; subst hd2; exact h0 h3
def lk (b k : Int) : Int := if 0 ≤ k ∧ (b < 0 ∨ k < b) then k else b
def leastK (out : List Int) (n : Nat) : Int := lk (lk (lk (-1) (out.getD (3 * n) (-1))) (out.getD (3 * n + 1) (-1))) (out.getD (3 * n + 2) (-1))
theorem leastK_cases (out : List Int) (n : Nat) : (leastK out n = -1 ∧ ∀ j, j < 3 → out.getD (3 * n + j) (-1) < 0) ∨ (0 ≤ leastK out n ∧ (∃ j, j < 3 ∧ out.getD (3 * n + j) (-1) = leastK out n) ∧ ∀ j, j < 3 → 0 ≤ out.getD (3 * n + j) (-1) → leastK out n ≤ out.getD (3 * n + j) (-1)) := by
  have e : ∀ j, j < 3 → j = 0 ∨ j = 1 ∨ j = 2 := fun j hj => by omega
  have hx : ∀ x y z : Int, (lk (lk (lk (-1) x) y) z = -1 ∧ x < 0 ∧ y < 0 ∧ z < 0) ∨ (0 ≤ lk (lk (lk (-1) x) y) z ∧ (x = lk (lk (lk (-1) x) y) z ∨ y = lk (lk (lk (-1) x) y) z ∨ z = lk (lk (lk (-1) x) y) z) ∧ (0 ≤ x → lk (lk (lk (-1) x) y) z ≤ x) ∧ (0 ≤ y → lk (lk (lk (-1) x) y) z ≤ y) ∧ (0 ≤ z → lk (lk (lk (-1) x) y) z ≤ z)) := by
    intro x y z
    have h1 : ∀ b k : Int, (lk b k = k ∧ 0 ≤ k ∧ (b < 0 ∨ k < b)) ∨ (lk b k = b ∧ (k < 0 ∨ (0 ≤ b ∧ b ≤ k))) := fun b k => by
      unfold lk; split
      · rename_i h; exact .inl ⟨rfl, h⟩
      · rename_i h; exact .inr ⟨rfl, by omega⟩
    have a1 := h1 (-1) x
    generalize lk (-1) x = p at *
    have a2 := h1 p y
    generalize lk p y = q at *
    have a3 := h1 q z
    generalize lk q z = r at *
    omega
  rcases hx (out.getD (3 * n) (-1)) (out.getD (3 * n + 1) (-1)) (out.getD (3 * n + 2) (-1)) with ⟨h1, h2, h3, h4⟩ | ⟨h1, h2, h3, h4, h5⟩
  · exact .inl ⟨h1, fun j hj => by rcases e j hj with rfl | rfl | rfl <;> assumption⟩
  · refine .inr ⟨h1, ?_, fun j hj h0 => by rcases e j hj with rfl | rfl | rfl <;> first | exact h3 h0 | exact h4 h0 | exact h5 h0⟩
    rcases h2 with h2 | h2 | h2
    · exact ⟨0, by omega, h2⟩
    · exact ⟨1, by omega, h2⟩
    · exact ⟨2, by omega, h2⟩
structure FromAll (G : Gr) (S : List Nat) (out : List Int) : Prop where
  ok : G.Ok
  cells : ∀ a ∈ S, a < G.N ∧ G.no a = false
  least : Least (G.E false) (S.map (3 * ·)) (3 * G.N) out
theorem FromAll.isMin {S : List Nat} (h : G.FromAll S out) {n : Nat} (hn : n < G.N) : IsMin (3 * G.N) (fun c m => ∃ a ∈ S, G.Way a n c m) (leastK out n) := by
  have reach : ∀ c m, (∃ a ∈ S, G.Way a n c m) → ∃ j, j < 3 ∧ 0 ≤ out.getD (3 * n + j) (-1) ∧ out.getD (3 * n + j) (-1) ≤ c * kB + m := by
    rintro c m ⟨a, ha, c0, L, hp, rfl⟩
    obtain ⟨w, h1, h2⟩ := way_on ha hp
    obtain ⟨d, hd, h3, h4⟩ := h.least.min _ _ _ w
    exact ⟨(lst 0 L).toNat, by omega, by rw [getD_some hd]; exact h3, by rw [getD_some hd]; exact h4⟩
  rcases leastK_cases out n with ⟨h1, h2⟩ | ⟨h1, ⟨j, hj, h2⟩, h3⟩
  · refine .inl ⟨h1, fun c m w => ?_⟩
    obtain ⟨j, hj, h3, _⟩ := reach c m w
    have := h2 j hj; omega
  · refine .inr ⟨h1, ?_, fun c m w => ?_⟩
    · have hl : 3 * n + j < out.length := by rw [h.least.len]; omega
      have hd : out[3 * n + j]? = some (leastK out n) := by
        rw [List.getD_eq_getElem?_getD, List.getElem?_eq_getElem hl] at h2
        rw [List.getElem?_eq_getElem hl]; exact congrArg some h2
      obtain ⟨c, m, w, e, h4, h5⟩ := h.least.way _ _ hd h1
      obtain ⟨_, a, ha, c0, L, hp, _, hc⟩ := walk_on h.cells w
      rw [show (3 * n + j) / 3 = n by omega] at hp
      exact ⟨c, m, ⟨a, ha, c0, L, hp, hc⟩, e, h4, h5⟩
    · obtain ⟨j, hj, h4, h5⟩ := reach c m w
      exact Int.le_trans (h3 j hj h4) h5
end Gr
end Go.Proofs.YtihjaehkdgdenaaGreatDoor

/- Chapter texts of ours, as far as the claim needs them. -/
import Derived.Test.YtihjaehkdgdenaaGreatDoorPaths
namespace Go.Proofs.YtihjaehkdgdenaaGreatDoor
open Go Go.RowKit
set_option linter.unusedVariables false
set_option linter.unusedSectionVars false
set_option linter.unusedSimpArgs false
namespace Gr
variable {G : Gr}
theorem Nb.ax {n m : Nat} {al : Int} (h : G.Nb n m al) : al = 1 ∨ al = 2 ∨ al = 3 := by have := h.2.2; omega
theorem mem_E {back : Bool} {s t : Nat} {k : Int} (hs : s < 3 * G.N) : (t, k) ∈ G.E back s ↔ ∃ m al, G.Nb (s / 3) m al ∧ G.no m = false ∧ (t, k) ∈ G.el back s (m, al) := by
  unfold E
  rw [List.mem_flatMap]
  constructor
  · rintro ⟨⟨m, al⟩, hm, he⟩
    obtain ⟨h1, h2⟩ := (G.mem_nbrs (by omega)).1 hm
    exact ⟨m, al, h1, h2, he⟩
  · rintro ⟨m, al, h1, h2, he⟩
    exact ⟨(m, al), (G.mem_nbrs (by omega)).2 ⟨h1, h2⟩, he⟩
theorem walk_back {b : Nat} (hb : b < G.N) (hf : G.no b = false) {s : Nat} {c : Int} {n : Nat} (h : Wk (G.E true) [3 * b, 3 * b + 1, 3 * b + 2] s c n) :
    s < 3 * G.N ∧ ∃ c0 L, G.Pth (s / 3) b c0 n L ∧ c = c0 + G.trn ((s % 3 : Nat) : Int) L := by
  induction h with
  | @start s hs =>
    have : s / 3 = b ∧ s < 3 * G.N := by simp at hs; omega
    refine ⟨this.2, 0, [], ?_, by simp [trn]⟩
    rw [this.1]; exact .nil hb hf
  | @step s c n t k w he ih =>
    obtain ⟨hs, c0, L, hp, hc⟩ := ih
    obtain ⟨m, al, hnb, hm, hel⟩ := (mem_E hs).1 he
    have hmN := hnb.2.1
    have hax := Nb.ax hnb
    have hq := Pth.cons G hp (Nb.symm G hnb) hm
    rw [← Nb.base G hnb] at hq
    unfold el at hel
    simp only at hel
    by_cases h3 : al = 3
    · subst h3
      simp only [if_true, List.mem_singleton] at hel
      injection hel with e1 e2
      subst e1; subst e2
      simp only [if_true] at hq
      refine ⟨by omega, c0 + G.via, L, ?_, ?_⟩
      · rw [show (3 * m + s % 3) / 3 = m by omega]
        have : G.base (s / 3) 3 = G.via := by simp [base]
        rw [this] at hq; exact hq
      · rw [show (3 * m + s % 3) % 3 = s % 3 by omega]; omega
    · rw [if_neg h3, if_pos trivial] at hel
      rw [if_neg h3] at hq
      split at hel
      · rename_i h4
        have key : ∀ j : Nat, j < 3 → t = 3 * m + j → k = G.base (s / 3) al + G.tn (j : Int) al → t < 3 * G.N ∧ ∃ c0 L, G.Pth (t / 3) b c0 (n + 1) L ∧ c + k = c0 + G.trn ((t % 3 : Nat) : Int) L := by
          intro j hj ht hk
          refine ⟨by omega, _, _, by rw [show t / 3 = m by omega]; exact hq, ?_⟩
          rw [show t % 3 = j by omega]
          simp only [trn]
          rw [← h4] at hc
          omega
        simp only [List.mem_cons, List.not_mem_nil, or_false, Prod.mk.injEq] at hel
        rcases hel with ⟨e1, e2⟩ | ⟨e1, e2⟩ | ⟨e1, e2⟩
        · exact key 0 (by omega) (by omega) e2
        · exact key 1 (by omega) e1 e2
        · exact key 2 (by omega) e1 e2
      · cases hel
theorem way_back {a b : Nat} {c0 : Int} {n : Nat} {M : List Int} (h : G.Pth b a c0 n M) : ∀ last : Nat, last < 3 → Wk (G.E true) [3 * b, 3 * b + 1, 3 * b + 2] (3 * a + last) (c0 + G.trn (last : Int) M.reverse) n := by
  induction h with
  | nil ha h0 => intro last hl; simp only [List.reverse_nil, trn, Int.add_zero]; exact .start (by simp; omega)
  | @snoc a m c n M al h hb h0 ih =>
    intro last hl
    have hax := Nb.ax hb
    have haN := hb.1
    by_cases h3 : al = 3
    · subst h3
      simp only [if_true]
      have w := ih last hl
      have he : (3 * m + last, G.via) ∈ G.E true (3 * a + last) := by
        refine (mem_E (by omega)).2 ⟨m, 3, ?_, h0, ?_⟩
        · rw [show (3 * a + last) / 3 = a by omega]; exact hb
        · unfold el; simp only [if_true, List.mem_singleton]; rw [show (3 * a + last) % 3 = last by omega]
      have := w.step he
      have e : G.base a 3 = G.via := by simp [base]
      rw [e, show c + G.via + G.trn (last : Int) M.reverse = c + G.trn (last : Int) M.reverse + G.via by omega]; exact this
    · rw [if_neg h3, List.reverse_append]
      simp only [List.reverse_cons, List.reverse_nil, List.nil_append, List.cons_append, trn]
      have w := ih al.toNat (by omega)
      have e1 : ((al.toNat : Nat) : Int) = al := by omega
      rw [e1] at w
      have he : (3 * m + last, G.base a al + G.tn (last : Int) al) ∈ G.E true (3 * a + al.toNat) := by
        refine (mem_E (by omega)).2 ⟨m, al, ?_, h0, ?_⟩
        · rw [show (3 * a + al.toNat) / 3 = a by omega]; exact hb
        · unfold el
          simp only
          rw [if_neg h3, if_pos trivial, show (3 * a + al.toNat) % 3 = al.toNat by omega, show (3 * a + al.toNat) / 3 = a by omega, if_pos e1.symm]
          simp only [List.mem_cons, List.not_mem_nil, or_false, Prod.mk.injEq]
          rcases (show last = 0 ∨ last = 1 ∨ last = 2 by omega) with rfl | rfl | rfl
          · exact .inl ⟨by omega, rfl⟩
          · exact .inr (.inl ⟨by omega, rfl⟩)
          · exact .inr (.inr ⟨by omega, rfl⟩)
      have := w.step he
      rw [show c + G.base a al + (G.tn (last : Int) al + G.trn al M.reverse) = c + G.trn al M.reverse + (G.base a al + G.tn (last : Int) al) by omega]; exact this
theorem walk_on {S : List Nat} (hS : ∀ a ∈ S, a < G.N ∧ G.no a = false) {s : Nat} {c : Int} {n : Nat} (h : Wk (G.E false) (S.map (3 * ·)) s c n) :
    s < 3 * G.N ∧ ∃ a ∈ S, ∃ c0 L, G.Pth a (s / 3) c0 n L ∧ ((s % 3 : Nat) : Int) = lst 0 L ∧ c = c0 + G.trn 0 L := by
  induction h with
  | @start s hs =>
    obtain ⟨a, ha, rfl⟩ := List.mem_map.1 hs
    obtain ⟨h1, h2⟩ := hS a ha
    refine ⟨by omega, a, ha, 0, [], ?_, by simp [lst], by simp [trn]⟩
    rw [show 3 * a / 3 = a by omega]; exact .nil h1 h2
  | @step s c n t k w he ih =>
    obtain ⟨hs, a, ha, c0, L, hp, hl, hc⟩ := ih
    obtain ⟨m, al, hnb, hm, hel⟩ := (mem_E hs).1 he
    have hmN := hnb.2.1
    have hax := Nb.ax hnb
    have hq := hp.snoc hnb hm
    unfold el at hel
    simp only at hel
    by_cases h3 : al = 3
    · subst h3
      simp only [if_true, List.mem_singleton] at hel
      injection hel with e1 e2
      subst e1; subst e2
      simp only [if_true] at hq
      refine ⟨by omega, a, ha, c0 + G.via, L, ?_, ?_, ?_⟩
      · rw [show (3 * m + s % 3) / 3 = m by omega]
        have : G.base (s / 3) 3 = G.via := by simp [base]
        rw [this] at hq; exact hq
      · rw [show (3 * m + s % 3) % 3 = s % 3 by omega]; exact hl
      · omega
    · rw [if_neg h3, if_neg (by simp)] at hel
      rw [if_neg h3] at hq
      simp only [List.mem_singleton] at hel
      injection hel with e1 e2
      subst e1; subst e2
      refine ⟨by omega, a, ha, _, _, by rw [show (3 * m + al.toNat) / 3 = m by omega]; exact hq, ?_, ?_⟩
      · rw [show (3 * m + al.toNat) % 3 = al.toNat by omega, lst_append]; simp only [lst]; omega
      · rw [trn_append]; simp only [trn]; rw [← hl]; omega
theorem way_on {S : List Nat} {a b : Nat} (ha : a ∈ S) {c0 : Int} {n : Nat} {L : List Int} (h : G.Pth a b c0 n L) : Wk (G.E false) (S.map (3 * ·)) (3 * b + (lst 0 L).toNat) (c0 + G.trn 0 L) n ∧ 0 ≤ lst 0 L ∧ lst 0 L < 3 := by
  induction h with
  | nil h1 h0 => exact ⟨by simp only [lst, trn]; exact .start (List.mem_map.2 ⟨_, ha, by simp⟩), by simp [lst], by simp [lst]⟩
  | @snoc b m c n L al h hb h0 ih =>
    obtain ⟨w, l0, l3⟩ := ih
    have hax := Nb.ax hb
    have hbN := hb.1
    by_cases h3 : al = 3
    · subst h3
      simp only [if_true]
      refine ⟨?_, l0, l3⟩
      have he : (3 * m + (lst 0 L).toNat, G.via) ∈ G.E false (3 * b + (lst 0 L).toNat) := by
        refine (mem_E (by omega)).2 ⟨m, 3, ?_, h0, ?_⟩
        · rw [show (3 * b + (lst 0 L).toNat) / 3 = b by omega]; exact hb
        · unfold el; simp only [if_true, List.mem_singleton]; rw [show (3 * b + (lst 0 L).toNat) % 3 = (lst 0 L).toNat by omega]
      have := w.step he
      have e : G.base b 3 = G.via := by simp [base]
      rw [e, show c + G.via + G.trn 0 L = c + G.trn 0 L + G.via by omega]; exact this
    · rw [if_neg h3, lst_append, trn_append]
      simp only [lst, trn]
      refine ⟨?_, by omega, by omega⟩
      have he : (3 * m + al.toNat, G.base b al + G.tn (lst 0 L) al) ∈ G.E false (3 * b + (lst 0 L).toNat) := by
        refine (mem_E (by omega)).2 ⟨m, al, ?_, h0, ?_⟩
        · rw [show (3 * b + (lst 0 L).toNat) / 3 = b by omega]; exact hb
        · unfold el
          simp only
          rw [if_neg h3, if_neg (by simp), show (3 * b + (lst 0 L).toNat) % 3 = (lst 0 L).toNat by omega, show (3 * b + (lst 0 L).toNat) / 3 = b by omega, show (((lst 0 L).toNat : Nat) : Int) = lst 0 L by omega]
          exact List.mem_singleton.2 rfl
      have := w.step he
      rw [show c + G.base b al + (G.trn 0 L + (G.tn (lst 0 L) al + 0)) = c + G.trn 0 L + (G.base b al + G.tn (lst 0 L) al) by omega]; exact this
def Way (G : Gr) (a b : Nat) (c : Int) (n : Nat) : Prop := ∃ c0 L, G.Pth a b c0 n L ∧ c = c0 + G.trn 0 L
theorem Way.rev {a b : Nat} {c : Int} {n : Nat} (h : G.Way a b c n) : G.Way b a c n := by
  obtain ⟨c0, L, hp, hc⟩ := h
  refine ⟨c0, L.reverse, Pth.rev G hp, ?_⟩
  rw [G.trn_reverse L (fun x hx => by have := Pth.axes G hp x hx; omega)]; exact hc
theorem back_iff {a b : Nat} (hb : b < G.N) (hf : G.no b = false) {c : Int} {n : Nat} : Wk (G.E true) [3 * b, 3 * b + 1, 3 * b + 2] (3 * a) c n ↔ G.Way a b c n := by
  constructor
  · intro h
    obtain ⟨_, c0, L, hp, hc⟩ := walk_back hb hf h
    rw [show 3 * a / 3 = a by omega] at hp
    rw [show 3 * a % 3 = 0 by omega] at hc
    exact ⟨c0, L, hp, hc⟩
  · rintro ⟨c0, L, hp, hc⟩
    have := way_back (Pth.rev G hp) 0 (by omega)
    rw [List.reverse_reverse] at this
    subst hc; exact this
end Gr
theorem Least.eq {E E' : Nat → List (Nat × Int)} {S S' : List Nat} {N : Nat} {out out' : List Int} (h : Least E S N out) (h' : Least E' S' N out') {s s' : Nat} (hw : ∀ c n, Wk E S s c n ↔ Wk E' S' s' c n) {d d' : Int} (hd : out[s]? = some d) (hd' : out'[s']? = some d') : d = d' := by
  have one : ∀ {E E' : Nat → List (Nat × Int)} {S S' : List Nat} {out out' : List Int} (h : Least E S N out) (h' : Least E' S' N out') {s s' : Nat} (hw : ∀ c n, Wk E S s c n → Wk E' S' s' c n) {d d' : Int} (hd : out[s]? = some d) (hd' : out'[s']? = some d'), 0 ≤ d → 0 ≤ d' ∧ d' ≤ d := by
    intro E E' S S' out out' h h' s s' hw d d' hd hd' h0
    obtain ⟨c, n, w, e, _, _⟩ := h.way s d hd h0
    obtain ⟨d2, h2, h3, h4⟩ := h'.min s' c n (hw c n w)
    rw [hd'] at h2; injection h2 with h2; subst h2
    exact ⟨h3, by omega⟩
  have l1 := h.low s d hd
  have l2 := h'.low s' d' hd'
  by_cases h0 : 0 ≤ d
  · have a1 := one h h' (fun c n => (hw c n).1) hd hd' h0
    have a2 := one h' h (fun c n => (hw c n).2) hd' hd a1.1
    omega
  · by_cases h1 : 0 ≤ d'
    · have a2 := one h' h (fun c n => (hw c n).2) hd' hd h1
      omega
    · omega
end Go.Proofs.YtihjaehkdgdenaaGreatDoor

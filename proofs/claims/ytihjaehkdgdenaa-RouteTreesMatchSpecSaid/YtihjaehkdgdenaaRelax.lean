/- Chapter texts of ours, as far as the claim needs them. -/
import Derived.Test.YtihjaehkdgdenaaWalks
namespace Go.Proofs.Ytihjaehkdgdenaa
open Go Go.RowKit
set_option linter.unusedVariables false
set_option linter.unusedSimpArgs false
namespace Gr
variable {G : Gr}
def wt (G : Gr) (al : Int) : Int := if al = 3 then G.via else G.step
inductive UW (G : Gr) : Nat → Nat → Int → Prop
  | nil {a : Nat} : a < G.N → G.no a = false → UW G a a 0
  | snoc {a b m : Nat} {c : Int} {al : Int} : UW G a b c → G.Nb b m al → G.no m = false → UW G a m (c + G.wt al)
theorem Ok.wt (h : G.Ok) (al : Int) : 1 ≤ G.wt al ∧ G.wt al ≤ 1000 := by
  have := h.step; have := h.via
  unfold Gr.wt; split <;> omega
theorem UW.ends {a b : Nat} {c : Int} (h : G.UW a b c) : a < G.N ∧ b < G.N ∧ G.no a = false ∧ G.no b = false := by
  induction h with
  | nil h1 h2 => exact ⟨h1, h1, h2, h2⟩
  | snoc _ hb hm ih => exact ⟨ih.1, hb.2.1, ih.2.2.1, hm⟩
theorem UW.cost (ok : G.Ok) {a b : Nat} {c : Int} (h : G.UW a b c) : 0 ≤ c := by
  induction h with
  | nil _ _ => exact Int.le_refl _
  | @snoc b m c al _ _ _ ih => have := ok.wt al; omega
theorem UW.trans {a b d : Nat} {c k : Int} (h : G.UW a b c) (h2 : G.UW b d k) : G.UW a d (c + k) := by
  induction h2 with
  | nil _ _ => rw [Int.add_zero]; exact h
  | snoc _ hb hm ih => rw [← Int.add_assoc]; exact ih.snoc hb hm
theorem UW.one {a m : Nat} {al : Int} (hb : G.Nb a m al) (ha : G.no a = false) (hm : G.no m = false) : G.UW a m (G.wt al) := by
  have := (UW.nil hb.1 ha).snoc hb hm
  rwa [Int.zero_add] at this
theorem UW.rev {a b : Nat} {c : Int} (h : G.UW a b c) : G.UW b a c := by
  induction h with
  | nil h1 h2 => exact .nil h1 h2
  | snoc h hb hm ih => rw [Int.add_comm]; exact (UW.one (Nb.symm G hb) hm h.ends.2.2.2).trans ih
structure Spr (G : Gr) (l l' : List Int) : Prop where
  len : l'.length = G.N
  low : ∀ (i : Nat) d, l'[i]? = some d → (-1 : Int) ≤ d
  snd : ∀ (i : Nat) d', l'[i]? = some d' → 0 ≤ d' → ∃ (j : Nat) (d c : Int), l[j]? = some d ∧ 0 ≤ d ∧ G.UW j i c ∧ d' = d + c
  min : ∀ (j i : Nat) (d c : Int), l[j]? = some d → 0 ≤ d → G.UW j i c → ∃ d', l'[i]? = some d' ∧ 0 ≤ d' ∧ d' ≤ d + c
theorem Spr.eq {l l' l'' : List Int} (h : G.Spr l l') (h' : G.Spr l l'') : l' = l'' := by
  have one : ∀ {l' l'' : List Int}, G.Spr l l' → G.Spr l l'' → ∀ (i : Nat) (d d' : Int), l'[i]? = some d → l''[i]? = some d' → 0 ≤ d → 0 ≤ d' ∧ d' ≤ d := by
    intro l' l'' h h' i d d' hd hd' h0
    obtain ⟨j, e, c, h1, h2, h3, h4⟩ := h.snd i d hd h0
    obtain ⟨d2, h5, h6, h7⟩ := h'.min j i e c h1 h2 h3
    rw [hd'] at h5; injection h5 with h5; omega
  apply List.ext_getElem?
  intro i
  rcases Nat.lt_or_ge i G.N with hi | hi
  · have e1 : l'[i]? = some (l'[i]'(by rw [h.len]; exact hi)) := List.getElem?_eq_getElem _
    have e2 : l''[i]? = some (l''[i]'(by rw [h'.len]; exact hi)) := List.getElem?_eq_getElem _
    have a := h.low i _ e1
    have b := h'.low i _ e2
    rw [e1, e2]; congr 1
    by_cases h0 : 0 ≤ l'[i]'(by rw [h.len]; exact hi)
    · have p := one h h' i _ _ e1 e2 h0
      have q := one h' h i _ _ e2 e1 p.1
      omega
    · by_cases h1 : 0 ≤ l''[i]'(by rw [h'.len]; exact hi)
      · have q := one h' h i _ _ e2 e1 h1
        omega
      · omega
  · rw [List.getElem?_eq_none (by rw [h.len]; exact hi), List.getElem?_eq_none (by rw [h'.len]; exact hi)]
def cntP (l : List Int) : Nat := l.countP (fun d => decide (0 ≤ d))
structure RX (G : Gr) (M : Int) (l cur : List Int) : Prop where
  len : cur.length = G.N
  low : ∀ (i : Nat) d, cur[i]? = some d → (-1 : Int) ≤ d
  snd : ∀ (i : Nat) d', cur[i]? = some d' → 0 ≤ d' → ∃ (j : Nat) (d c : Int), l[j]? = some d ∧ 0 ≤ d ∧ G.UW j i c ∧ d' = d + c
  old : ∀ (j : Nat) d, l[j]? = some d → 0 ≤ d → ∃ d', cur[j]? = some d' ∧ 0 ≤ d' ∧ d' ≤ d
  bnd : ∀ (i : Nat) d, cur[i]? = some d → 0 ≤ d → d + 1000 ≤ M + cntP cur * 1000
def potI (B : Int) (d : Int) : Nat := (if d < 0 then B else d).toNat
def pot (B : Int) (l : List Int) : Nat := (l.map (potI B)).sum
theorem pot_set {B : Int} {l : List Int} {i : Nat} {d v : Int} (h : l[i]? = some d) (hv : potI B v < potI B d) : pot B (l.set i v) < pot B l := by
  unfold pot
  induction l generalizing i with
  | nil => simp at h
  | cons x r ih =>
    cases i with
    | zero => simp at h; subst h; simp only [List.set_cons_zero, List.map_cons, List.sum_cons]; omega
    | succ i => simp at h; have := ih h; simp only [List.set_cons_succ, List.map_cons, List.sum_cons]; omega
theorem cntP_set {l : List Int} {t : Nat} {d v : Int} (h : l[t]? = some d) (hv : 0 ≤ v) : cntP (l.set t v) = cntP l + (if 0 ≤ d then 0 else 1) := cntF_set h hv
variable {M : Int} {l cur : List Int}
theorem RX.init (hl : l.length = G.N) (h1 : ∀ (i : Nat) d, l[i]? = some d → -1 ≤ d ∧ d ≤ M ∧ (0 ≤ d → G.no i = false)) : G.RX M l l := by
  refine ⟨hl, fun i d h => (h1 i d h).1, fun i d h h0 => ⟨i, d, 0, h, h0, .nil (by rw [← hl]; exact (List.getElem?_eq_some_iff.1 h).1) ((h1 i d h).2.2 h0), by omega⟩, fun j d h h0 => ⟨d, h, h0, Int.le_refl _⟩, fun i d h h0 => ?_⟩
  have h2 := (h1 i d h).2.1
  have hc : 0 < cntP l := List.countP_pos_iff.2 ⟨d, List.mem_of_getElem? h, by simpa using h0⟩
  omega
theorem RX.le (h : G.RX M l cur) {i : Nat} {d : Int} (hd : cur[i]? = some d) (h0 : 0 ≤ d) : d + 1000 ≤ M + G.N * 1000 := by
  have := h.bnd i d hd h0
  have hc : cntP cur ≤ cur.length := List.countP_le_length
  rw [h.len] at hc
  omega
theorem RX.relax (ok : G.Ok) (h : G.RX M l cur) {n m : Nat} {al x z : Int} (hx : cur[n]? = some x) (h0 : 0 ≤ x) (hb : G.Nb n m al) (hm : G.no m = false) (hz : cur[m]? = some z) (hlt : z < 0 ∨ x + G.wt al < z) :
    G.RX M l (cur.set m (x + G.wt al)) ∧ pot (M + G.N * 1000 + 1) (cur.set m (x + G.wt al)) < pot (M + G.N * 1000 + 1) cur ∧ m ≠ n := by
  have hw := ok.wt al
  have hml := (List.getElem?_eq_some_iff.1 hz).1
  have hget : ∀ s : Nat, (cur.set m (x + G.wt al))[s]? = if m = s then some (x + G.wt al) else cur[s]? := fun s => by
    rw [List.getElem?_set]; split
    · rename_i e; subst e; simp [hml]
    · rfl
  have hcnt := cntP_set hz (show 0 ≤ x + G.wt al by omega)
  have hbx := h.bnd n x hx h0
  refine ⟨⟨by rw [List.length_set]; exact h.len, fun i d hd => ?_, fun i d hd hd0 => ?_, fun j d hd hd0 => ?_, fun i d hd hd0 => ?_⟩, pot_set hz ?_, fun e => ?_⟩
  · rw [hget] at hd; split at hd
    · injection hd with hd; omega
    · exact h.low i d hd
  · rw [hget] at hd; split at hd
    · rename_i e; subst e; injection hd with hd; subst hd
      obtain ⟨j, d, c, h1, h2, h3, h4⟩ := h.snd n x hx h0
      exact ⟨j, d, c + G.wt al, h1, h2, h3.snoc hb hm, by omega⟩
    · exact h.snd i d hd hd0
  · obtain ⟨d', h1, h2, h3⟩ := h.old j d hd hd0
    rw [hget]
    by_cases e : m = j
    · subst e; rw [if_pos rfl]; rw [hz] at h1; injection h1 with h1; subst h1
      exact ⟨_, rfl, by omega, by omega⟩
    · rw [if_neg e]; exact ⟨d', h1, h2, h3⟩
  · rw [hcnt]
    rw [hget] at hd; split at hd
    · rename_i e; subst e
      have hd := Option.some.inj hd
      subst hd
      by_cases hz0 : 0 ≤ z
      · rw [if_pos hz0]
        have := h.bnd m z hz hz0
        rw [Nat.add_zero]; omega
      · rw [if_neg hz0]; push_cast; omega
    · have := h.bnd i d hd hd0
      split <;> push_cast <;> omega
  · have hle := h.le hx h0
    have hz1 := h.low m z hz
    unfold potI
    rw [if_neg (by omega)]
    split <;> omega
  · subst e; rw [hx] at hz; injection hz with hz; omega
theorem RX.done (ok : G.Ok) (h : G.RX M l cur) (hf : ∀ (n m : Nat) (al x : Int), cur[n]? = some x → 0 ≤ x → G.Nb n m al → G.no m = false → ∃ y, cur[m]? = some y ∧ 0 ≤ y ∧ y ≤ x + G.wt al) : G.Spr l cur := by
  refine ⟨h.len, h.low, h.snd, fun j i d c hd h0 hw => ?_⟩
  induction hw with
  | nil _ _ => obtain ⟨d', h1, h2, h3⟩ := h.old _ d hd h0; exact ⟨d', h1, h2, by omega⟩
  | snoc _ hb hm ih =>
    obtain ⟨d', h1, h2, h3⟩ := ih
    obtain ⟨y, h4, h5, h6⟩ := hf _ _ _ d' h1 h2 hb hm
    exact ⟨y, h4, h5, by omega⟩
end Gr
end Go.Proofs.Ytihjaehkdgdenaa

/- Chapter texts of ours, as far as the claim needs them. -/
import Derived.Test.YtfjcgoiedlimdaaGreatDoorPaths
import Derived.Test.YtfjcgoiedlimdaaGreatDoorRtH
import Derived.Test.YtfjcgoiedlimdaaGreatDoorRtN
namespace Go.Proofs.YtfjcgoiedlimdaaGreatDoor
open Go Go.RowKit
set_option linter.unusedVariables false
set_option linter.unusedSectionVars false
set_option linter.unusedSimpArgs false
def rkP (p : Int × Int) : Int := p.1 * kB + p.2
structure BG (E : Nat → List (Nat × Int)) (S : List Nat) (N : Nat) (A : Nat → Prop) (best : List (Int × Int)) (dn : List Bool) (l : List ((Int × Int) × Nat)) : Prop where
  lb : best.length = N
  ld : dn.length = N
  off : ∀ s : Nat, dn[s]? = some false → best[s]? = some (0, 0)
  on : ∀ s : Nat, dn[s]? = some true → ∃ (c : Int) (n : Nat), Wk E S s c n ∧ best[s]? = some (c, (n : Int) + 1) ∧ 0 ≤ c ∧ n + 1 ≤ dn.count true
  ent : ∀ x ∈ l, x.2 < N ∧ ∃ (c : Int) (n : Nat), Wk E S x.2 c n ∧ x.1 = (c, (n : Int) + 1) ∧ 0 ≤ c ∧ n ≤ dn.count true
  mono : ∀ x ∈ l, ∀ (s : Nat) b, dn[s]? = some true → best[s]? = some b → rkP b ≤ rkP x.1
  st : ∀ s ∈ S, (dn[s]? = some true ∧ ∃ b, best[s]? = some b ∧ rkP b ≤ 1) ∨ ((0, 1), s) ∈ l
  rel : ∀ (s : Nat) b, dn[s]? = some true → best[s]? = some b → A s ∨ ∀ e ∈ E s, (dn[e.1]? = some true ∧ ∃ b', best[e.1]? = some b' ∧ rkP b' ≤ rkP b + e.2 * kB + 1) ∨ ((b.1 + e.2, b.2 + 1), e.1) ∈ l
structure DR (E : Nat → List (Nat × Int)) (S : List Nat) (N : Nat) (s0 : Nat) (b0 : Int × Int) (L R : List (Nat × Int)) (best : List (Int × Int)) (dn : List Bool) (l : List ((Int × Int) × Nat)) : Prop where
  base : BG E S N (· = s0) best dn l
  at0 : best[s0]? = some b0
  on0 : dn[s0]? = some true
  all : E s0 = L ++ R
  done : ∀ e ∈ L, ((b0.1 + e.2, b0.2 + 1), e.1) ∈ l
  dle : ∀ (s : Nat) b, dn[s]? = some true → best[s]? = some b → rkP b ≤ rkP b0
theorem count_set {dn : List Bool} {s : Nat} (h : dn[s]? = some false) : (dn.set s true).count true = dn.count true + 1 := by
  induction dn generalizing s with
  | nil => simp at h
  | cons x r ih =>
    cases s with
    | zero => simp at h; subst h; simp
    | succ s => simp at h; simp only [List.set_cons_succ, List.count_cons, ih h]; omega
section
variable {E : Nat → List (Nat × Int)} {S : List Nat} {N : Nat} {K : Int} {A : Nat → Prop} {best : List (Int × Int)} {dn : List Bool} {l l' : List ((Int × Int) × Nat)}
theorem BG.perm (h : BG E S N A best dn l) (hp : l'.Perm l) : BG E S N A best dn l' :=
  ⟨h.lb, h.ld, h.off, h.on, fun x hx => h.ent x (hp.mem_iff.1 hx), fun x hx => h.mono x (hp.mem_iff.1 hx), fun s hs => (h.st s hs).imp id hp.mem_iff.2,
    fun s b h1 h2 => (h.rel s b h1 h2).imp id (fun h3 e he => (h3 e he).imp id hp.mem_iff.2)⟩
theorem DR.perm {s0 : Nat} {b0 : Int × Int} {L R : List (Nat × Int)} (h : DR E S N s0 b0 L R best dn l) (hp : l'.Perm l) : DR E S N s0 b0 L R best dn l' :=
  ⟨h.base.perm hp, h.at0, h.on0, h.all, fun e he => hp.mem_iff.2 (h.done e he), h.dle⟩
theorem BG.skip {x : (Int × Int) × Nat} (h : BG E S N (fun _ => False) best dn (x :: l)) (hx : dn[x.2]? = some true) : BG E S N (fun _ => False) best dn l := by
  obtain ⟨c, n, w, hb, h0, hn⟩ := h.on x.2 hx
  have hm := h.mono x List.mem_cons_self x.2 _ hx hb
  refine ⟨h.lb, h.ld, h.off, h.on, fun y hy => h.ent y (List.mem_cons_of_mem _ hy), fun y hy => h.mono y (List.mem_cons_of_mem _ hy), fun s hs => ?_, fun s b h1 h2 => ?_⟩
  · rcases h.st s hs with h3 | h3
    · exact .inl h3
    · rcases List.mem_cons.1 h3 with h4 | h4
      · subst h4; exact .inl ⟨hx, _, hb, by simpa [rkP] using hm⟩
      · exact .inr h4
  · rcases h.rel s b h1 h2 with h3 | h3
    · exact h3.elim
    · refine .inr fun e he => ?_
      rcases h3 e he with h4 | h4
      · exact .inl h4
      · rcases List.mem_cons.1 h4 with h5 | h5
        · subst h5; refine .inl ⟨hx, _, hb, ?_⟩
          simp only [rkP] at hm ⊢
          rw [Int.add_mul] at hm; omega
        · exact .inr h5
theorem BG.open_ {x : (Int × Int) × Nat} (h : BG E S N (fun _ => False) best dn (x :: l)) (hmin : ∀ y ∈ l, rkP x.1 ≤ rkP y.1) (hx : dn[x.2]? = some false) :
    DR E S N x.2 x.1 [] (E x.2) (best.set x.2 x.1) (dn.set x.2 true) l := by
  have hlt := (List.getElem?_eq_some_iff.1 hx).1
  have hlb : x.2 < best.length := by rw [h.lb, ← h.ld]; exact hlt
  have hcnt := count_set hx
  have gd : ∀ s : Nat, (dn.set x.2 true)[s]? = if x.2 = s then some true else dn[s]? := fun s => by
    rw [List.getElem?_set]; split
    · rename_i e; subst e; first | rfl | simp [hlt]
    · rfl
  have gb : ∀ s : Nat, (best.set x.2 x.1)[s]? = if x.2 = s then some x.1 else best[s]? := fun s => by
    rw [List.getElem?_set]; split
    · rename_i e; subst e; first | rfl | simp [hlb]
    · rfl
  obtain ⟨_, c, n, w, ex, h0, hn⟩ := h.ent x List.mem_cons_self
  have old : ∀ (s : Nat) b, x.2 ≠ s → (dn.set x.2 true)[s]? = some true → (best.set x.2 x.1)[s]? = some b → dn[s]? = some true ∧ best[s]? = some b := fun s b hne h1 h2 => by
    rw [gd, if_neg hne] at h1; rw [gb, if_neg hne] at h2; exact ⟨h1, h2⟩
  have keep : ∀ (s : Nat) (r : Int), (dn[s]? = some true ∧ ∃ b, best[s]? = some b ∧ rkP b ≤ r) → (dn.set x.2 true)[s]? = some true ∧ ∃ b, (best.set x.2 x.1)[s]? = some b ∧ rkP b ≤ r := fun s r ⟨h1, b, h2, h3⟩ => by
    have hne : x.2 ≠ s := fun e => by rw [e] at hx; rw [hx] at h1; cases h1
    exact ⟨by rw [gd, if_neg hne]; exact h1, b, by rw [gb, if_neg hne]; exact h2, h3⟩
  have dle : ∀ (s : Nat) b, (dn.set x.2 true)[s]? = some true → (best.set x.2 x.1)[s]? = some b → rkP b ≤ rkP x.1 := fun s b h1 h2 => by
    by_cases e : x.2 = s
    · rw [gb, if_pos e] at h2; injection h2 with h2; rw [h2]; exact Int.le_refl _
    · obtain ⟨h3, h4⟩ := old s b e h1 h2
      exact h.mono x List.mem_cons_self s b h3 h4
  refine ⟨⟨by rw [List.length_set]; exact h.lb, by rw [List.length_set]; exact h.ld, fun s h1 => ?_, fun s h1 => ?_, fun y hy => ?_, fun y hy s b h1 h2 => ?_, fun s hs => ?_, fun s b h1 h2 => ?_⟩, by rw [gb, if_pos rfl], by rw [gd, if_pos rfl], by simp, fun e he => (by cases he), dle⟩
  · rw [gd] at h1; split at h1
    · cases h1
    · rename_i e; rw [gb, if_neg e]; exact h.off s h1
  · by_cases e : x.2 = s
    · subst e; exact ⟨c, n, w, by rw [gb, if_pos rfl, ex], h0, by rw [hcnt]; omega⟩
    · rw [gd, if_neg e] at h1
      obtain ⟨c', n', w', hb', h0', hn'⟩ := h.on s h1
      exact ⟨c', n', w', by rw [gb, if_neg e]; exact hb', h0', by rw [hcnt]; omega⟩
  · obtain ⟨hN, c', n', w', ex', h0', hn'⟩ := h.ent y (List.mem_cons_of_mem _ hy)
    exact ⟨hN, c', n', w', ex', h0', by rw [hcnt]; omega⟩
  · exact Int.le_trans (dle s b h1 h2) (hmin y hy)
  · rcases h.st s hs with h3 | h3
    · exact .inl (keep s 1 h3)
    · rcases List.mem_cons.1 h3 with h4 | h4
      · subst h4; exact .inl ⟨by rw [gd, if_pos rfl], _, by rw [gb, if_pos rfl], by simp [rkP]⟩
      · exact .inr h4
  · by_cases e : x.2 = s
    · exact .inl e.symm
    · obtain ⟨h3, h4⟩ := old s b e h1 h2
      rcases h.rel s b h3 h4 with h5 | h5
      · exact h5.elim
      · refine .inr fun f hf => ?_
        rcases h5 f hf with h6 | h6
        · exact .inl (keep f.1 _ h6)
        · rcases List.mem_cons.1 h6 with h7 | h7
          · subst h7; refine .inl ⟨by rw [gd, if_pos rfl], _, by rw [gb, if_pos rfl], ?_⟩
            simp only [rkP]; rw [Int.add_mul]; omega
          · exact .inr h7
theorem DR.push {s0 : Nat} {b0 : Int × Int} {L R : List (Nat × Int)} {t : Nat} {k : Int} (h : DR E S N s0 b0 L ((t, k) :: R) best dn l) (hE : Ih E N K) : DR E S N s0 b0 (L ++ [(t, k)]) R best dn (((b0.1 + k, b0.2 + 1), t) :: l) := by
  have hkB : kB = 1048576 := rfl
  have he : (t, k) ∈ E s0 := by rw [h.all]; simp
  have hs0 : s0 < N := by rw [← h.base.lb]; exact (List.getElem?_eq_some_iff.1 h.at0).1
  obtain ⟨ht, hk, _⟩ := (hE s0 hs0).2 _ he
  simp only at ht hk
  obtain ⟨c, n, w, hb, h0, hn⟩ := h.base.on s0 h.on0
  have eb : b0 = (c, (n : Int) + 1) := by have := h.at0; rw [hb] at this; injection this with this; exact this.symm
  refine ⟨⟨h.base.lb, h.base.ld, h.base.off, h.base.on, fun y hy => ?_, fun y hy s b h1 h2 => ?_, fun s hs => (h.base.st s hs).imp id (List.mem_cons_of_mem _), fun s b h1 h2 => ?_⟩, h.at0, h.on0, by rw [h.all]; simp, fun e he => ?_, h.dle⟩
  · rcases List.mem_cons.1 hy with hy | hy
    · subst hy; refine ⟨ht, c + k, n + 1, w.step he, ?_, by omega, by omega⟩
      rw [eb]; simp only [Prod.mk.injEq]; exact ⟨trivial, by omega⟩
    · exact h.base.ent y hy
  · rcases List.mem_cons.1 hy with hy | hy
    · subst hy
      refine Int.le_trans (h.dle s b h1 h2) ?_
      simp only [rkP]; rw [Int.add_mul, hkB]; omega
    · exact h.base.mono y hy s b h1 h2
  · exact (h.base.rel s b h1 h2).imp id (fun h3 e he => (h3 e he).imp id (List.mem_cons_of_mem _))
  · rcases List.mem_append.1 he with he | he
    · exact List.mem_cons_of_mem _ (h.done e he)
    · simp at he; subst he; exact List.mem_cons_self
theorem DR.close {s0 : Nat} {b0 : Int × Int} {L : List (Nat × Int)} (h : DR E S N s0 b0 L [] best dn l) : BG E S N (fun _ => False) best dn l :=
  ⟨h.base.lb, h.base.ld, h.base.off, h.base.on, h.base.ent, h.base.mono, h.base.st, fun s b h1 h2 => by
    rcases h.base.rel s b h1 h2 with h3 | h3
    · subst h3
      have := h.at0; rw [h2] at this; injection this with this; subst this
      have ha := h.all; rw [List.append_nil] at ha
      exact .inr fun e he => .inr (h.done e (by rw [← ha]; exact he))
    · exact .inr h3⟩
def Jy (b : Int × Int) : Int := if b.2 = 0 then -1 else b.1 * kB + b.2 - 1
theorem BG.least (h : BG E S N (fun _ => False) best dn []) : Least E S N (best.map Jy) := by
  have hmin : ∀ s c n, Wk E S s c n → dn[s]? = some true ∧ ∃ b, best[s]? = some b ∧ rkP b ≤ c * kB + n + 1 := by
    intro s c n w
    induction w with
    | start hs =>
      rcases h.st _ hs with ⟨h1, b, h2, h3⟩ | h1
      · exact ⟨h1, b, h2, by simpa using h3⟩
      · cases h1
    | step w he ih =>
      obtain ⟨h1, b, h2, h3⟩ := ih
      rcases h.rel _ b h1 h2 with h4 | h4
      · exact h4.elim
      · rcases h4 _ he with ⟨h5, b', h6, h7⟩ | h5
        · exact ⟨h5, b', h6, by rw [Int.add_mul]; push_cast; simp only at h7; omega⟩
        · cases h5
  have val : ∀ s : Nat, dn[s]? = some true → ∃ (c : Int) (n : Nat), Wk E S s c n ∧ best[s]? = some (c, (n : Int) + 1) ∧ 0 ≤ c ∧ n < N ∧ Jy (c, (n : Int) + 1) = c * kB + n := fun s hs => by
    obtain ⟨c, n, w, hb, h0, hn⟩ := h.on s hs
    have hc : dn.count true ≤ dn.length := List.count_le_length
    rw [h.ld] at hc
    refine ⟨c, n, w, hb, h0, by omega, ?_⟩
    unfold Jy; rw [if_neg (by simp only; omega)]; simp only; omega
  have hkB : kB = 1048576 := rfl
  refine ⟨by rw [List.length_map]; exact h.lb, fun s d hd => ?_, fun s d hd h0 => ?_, fun s c n w => ?_⟩
  · rw [List.getElem?_map] at hd
    obtain ⟨b, hb, rfl⟩ := Option.map_eq_some_iff.1 hd
    have hl : s < dn.length := by rw [h.ld, ← h.lb]; exact (List.getElem?_eq_some_iff.1 hb).1
    cases hq : dn[s] with
    | false =>
      have := h.off s (by rw [List.getElem?_eq_getElem hl, hq]); rw [hb] at this; injection this with this; subst this; simp [Jy]
    | true =>
      obtain ⟨c, n, _, hb', h0, _, hk⟩ := val s (by rw [List.getElem?_eq_getElem hl, hq])
      rw [hb] at hb'; injection hb' with hb'; subst hb'; rw [hk, hkB]; omega
  · rw [List.getElem?_map] at hd
    obtain ⟨b, hb, rfl⟩ := Option.map_eq_some_iff.1 hd
    have hl : s < dn.length := by rw [h.ld, ← h.lb]; exact (List.getElem?_eq_some_iff.1 hb).1
    cases hq : dn[s] with
    | false =>
      have := h.off s (by rw [List.getElem?_eq_getElem hl, hq]); rw [hb] at this; injection this with this; subst this; simp [Jy] at h0
    | true =>
      obtain ⟨c, n, w, hb', h1, hn, hk⟩ := val s (by rw [List.getElem?_eq_getElem hl, hq])
      rw [hb] at hb'; injection hb' with hb'; subst hb'
      exact ⟨c, n, w, hk, h1, hn⟩
  · obtain ⟨h1, b, h2, h3⟩ := hmin s c n w
    obtain ⟨c', n', _, hb', h4, _, hk⟩ := val s h1
    rw [h2] at hb'; injection hb' with hb'; subst hb'
    refine ⟨_, by rw [List.getElem?_map, h2]; rfl, by rw [hk, hkB]; omega, ?_⟩
    rw [hk]; simp only [rkP] at h3; omega
end
def rkW (w : fC) : Int := w.cost * kB + w.cells
def rkE (e : eY) : Int := rkW e.worth
def okE (e : eY) : Prop := 1 ≤ e.worth.cells ∧ e.worth.cells ≤ kB
def vM (l : List eY) : Prop := HpF (wE rkE l) l.length 0
def pr7 (e : eY) : (Int × Int) × Nat := ((e.worth.cost, e.worth.cells), e.state.toNat)
theorem vS {a b : eY} (ha : okE a) (hb : okE b) {Q : Bool → Prop} (h : Q (decide (rkE a < rkE b))) : mZ a.worth b.worth Q := by
  have hkB : kB = 1048576 := rfl
  unfold okE at ha hb
  unfold rkE rkW at h
  rw [hkB] at ha hb h
  unfold mZ
  refine fB (fun e => ?_) (fun e => fB (fun e2 => ?_) (fun e2 => fB (fun e3 => ?_) (fun e3 => ?_)))
  · simp at e; omega
  · simp at e2; rw [decide_eq_true (by omega)] at h; exact h
  · simp at e2 e3
    rw [show decide (a.worth.cost * 1048576 + a.worth.cells < b.worth.cost * 1048576 + b.worth.cells) = decide (a.worth.cells < b.worth.cells) from decide_eq_decide.2 (by omega)] at h; exact h
  · simp at e2 e3; rw [decide_eq_false (by omega)] at h; exact h
theorem KZ {l : List eY} {x : eY} {k : Nat} (hk : k < l.length) : wE rkE (l ++ [x]) k = wE rkE l k := by
  unfold wE; rw [List.getElem?_append_left hk]
theorem LX {Q : iK → Prop} {l : List eY} {x : eY} (hr : (l.length + 1) * 24 ≤ 140737488355328) (hok : ∀ y ∈ l, okE y) (hx : okE x) (hh : vM l) (h : ∀ l', l'.Perm (x :: l) → vM l' → Q ⟨l'⟩) : qw ⟨l⟩ x Q := by
  unfold qw
  have hlen : (l ++ [x]).length = l.length + 1 := by simp
  have hperm : (l ++ [x]).Perm (x :: l) := List.perm_append_singleton x l
  have hok2 : ∀ y ∈ l ++ [x], okE y := fun y hy => by
    rcases List.mem_append.1 hy with h1 | h1
    · exact hok y h1
    · simp at h1; subst h1; exact hx
  refine ⟨uJ (by rw [hlen]; exact hr) (by decide), ?_⟩
  show lp _ (l ++ [x], w64 (((l ++ [x]).length : Int) - 1))
  rw [show w64 (((l ++ [x]).length : Int) - 1) = (l.length : Int) by rw [hlen, fO] <;> omega]
  refine oU (fun m (s : List eY × Int) => s.2 = (m : Int) ∧ s.1.Perm (l ++ [x]) ∧ m < l.length + 1 ∧ UpI (wE rkE s.1) (l.length + 1) m) (n := l.length) ⟨rfl, .refl _, by omega, UpI.last (HpF.congr hh (Nat.le_refl _) (fun k hk => KZ hk))⟩ ?_
  rintro m ⟨l2, n2⟩ X ⟨hn, hp, hm, hu⟩ hX
  simp only at hn hp hu
  subst hn
  have hl2 : l2.length = l.length + 1 := hp.length_eq.trans hlen
  have okl : ∀ (k : Nat) y, l2[k]? = some y → okE y := fun k y hy => hok2 y (hp.mem_iff.1 (List.mem_of_getElem? hy))
  show oD Q (fun l2 n2 => X (l2, n2)) l2 m
  unfold oD
  have stop : (0 < m → wE rkE l2 ((m - 1) / 2) ≤ wE rkE l2 m) → mP Q l2 m (fun l2 n2 => X (l2, n2)) false := fun hd => by
    unfold mP
    simp only [gY]
    exact h l2 (hp.trans hperm) (by unfold vM; rw [hl2]; exact hu.stop hd)
  refine fB (fun e => ?_) (fun e => ?_)
  · have h0 : 0 < m := by simpa using e
    have hxm : l2[m]? = some (l2[m]'(by omega)) := List.getElem?_eq_getElem (by omega)
    have hym : l2[(m - 1) / 2]? = some (l2[(m - 1) / 2]'(by omega)) := List.getElem?_eq_getElem (by omega)
    generalize l2[m]'(by omega) = u at hxm
    generalize l2[(m - 1) / 2]'(by omega) = v at hym
    rw [O3 (by omega)]
    refine gG hxm (gG hym (vS (okl _ _ hxm) (okl _ _ hym) ?_))
    by_cases hlt : rkE u < rkE v
    · rw [decide_eq_true hlt]
      unfold mP
      simp only [iJ]
      rw [O3 (by omega)]
      refine gG hym (gG hxm ?_)
      simp only [Int.toNat_natCast]
      have h3 : (l2.set m v)[(m - 1) / 2]? = some ((l2.set m v)[(m - 1) / 2]'(by rw [List.length_set]; omega)) := List.getElem?_eq_getElem (by rw [List.length_set]; omega)
      refine gG h3 ?_
      refine hX ((m - 1) / 2) _ (by omega) ⟨rfl, (xQ hxm hym).trans hp, by omega, ?_⟩
      exact hu.step h0 (by omega) (by rw [jm hxm, jm hym]; exact hlt) (fun k => by
        have := Ae (r := rkE) hxm hym k
        show wE rkE (yP l2 m ((m - 1) / 2) u v) k = _
        rw [this]
        by_cases c1 : k = m
        · subst c1; rw [if_pos rfl, if_neg (by omega), if_pos rfl]
        · rw [if_neg c1]
          by_cases c2 : k = (m - 1) / 2
          · rw [if_pos c2, if_pos c2]
          · rw [if_neg c2, if_neg c2, if_neg c1])
    · rw [decide_eq_false hlt]
      exact stop (fun _ => by rw [jm hxm, jm hym]; omega)
  · have h0 : ¬ 0 < m := by simpa using e
    exact stop (fun h1 => absurd h1 h0)
theorem Ov {l : List eY} {x y : eY} (hx : l[0]? = some x) (hy : l[l.length - 1]? = some y) : l.Perm (x :: (l.set 0 y).take (l.length - 1)) := by
  cases l with
  | nil => simp at hx
  | cons z t =>
    simp at hx; subst hx
    rcases List.eq_nil_or_concat t with rfl | ⟨t', u, rfl⟩
    · simp
    · have hyu : y = u := by simp at hy; exact hy.symm
      subst hyu
      simp only [List.set_cons_zero, List.length_cons, List.length_append, List.length_nil, Nat.zero_add, Nat.add_sub_cancel]
      rw [List.concat_eq_append, List.length_append]
      simp only [List.length_singleton, List.take_succ_cons, List.take_left']
      refine List.Perm.cons _ ?_
      exact List.perm_append_singleton y t'
theorem Ql {Q : eY → iK → Prop} {l : List eY} (hl : l.length ≤ 4000000) (h0 : 0 < l.length) (hok : ∀ y ∈ l, okE y) (hh : vM l) (h : ∀ x l', l.Perm (x :: l') → (∀ y ∈ l', rkE x ≤ rkE y) → vM l' → Q x ⟨l'⟩) : wI ⟨l⟩ Q := by
  unfold wI
  simp only
  have ew : w64 ((l.length : Int) - 1) = ((l.length - 1 : Nat) : Int) := by rw [fO] <;> omega
  rw [ew]
  have hx : l[0]? = some l[0] := List.getElem?_eq_getElem h0
  have hy : l[l.length - 1]? = some (l[l.length - 1]'(by omega)) := List.getElem?_eq_getElem (by omega)
  generalize l[0] = x at hx
  generalize l[l.length - 1]'(by omega) = y at hy
  refine gG (i := 0) hx (gG hy ⟨⟨by omega, by rw [List.length_set]; omega⟩, ?_⟩)
  rw [Int.toNat_natCast]
  have hperm := Ov hx hy
  generalize hl3 : (l.set 0 y).take (l.length - 1) = l3 at hperm
  have hlen3 : l3.length = l.length - 1 := by rw [← hl3, List.length_take, List.length_set]; omega
  have hrk : ∀ k, 0 < k → k < l.length - 1 → wE rkE l3 k = wE rkE l k := fun k hk hkn => by
    unfold wE; rw [← hl3, List.getElem?_take, if_pos hkn, List.getElem?_set_ne (by omega)]
  have fin : ∀ l', l'.Perm l3 → vM l' → Q x ⟨l'⟩ := fun l' hp hh' => by
    refine h x l' (hperm.trans (hp.symm.cons x)) (fun z hz => ?_) hh'
    have hm : z ∈ l := hperm.mem_iff.2 (List.mem_cons_of_mem _ (hp.mem_iff.1 hz))
    obtain ⟨k, hk⟩ := List.getElem?_of_mem hm
    have := HpF.min hh k (dO hk)
    rw [jm hx, jm hk] at this; exact this
  refine oU (fun m (s : List eY × Int) => ∃ p : Nat, s.2 = (p : Int) ∧ p + m = l.length ∧ s.1.Perm l3 ∧ DnI (wE rkE s.1) (l.length - 1) 0 p) (n := l.length) ⟨0, rfl, by omega, .refl _, DnI.pop hh (by omega) hrk⟩ ?_
  rintro m ⟨l2, n2⟩ X ⟨p, hp2, hpm, hp, hd⟩ hX
  simp only at hp2 hp hd
  subst hp2
  have hl2 : l2.length = l.length - 1 := hp.length_eq.trans hlen3
  have okl : ∀ (k : Nat) z, l2[k]? = some z → okE z := fun k z hz => hok z (hperm.mem_iff.2 (List.mem_cons_of_mem _ (hp.mem_iff.1 (List.mem_of_getElem? hz))))
  show pF ⟨l⟩ Q x (fun l2 n2 => X (l2, n2)) l2 p
  obtain ⟨ej1, ej2⟩ := Ot (i := p) (by omega)
  unfold pF
  simp only
  rw [ej2, ej1, ew]
  have stop : (∀ k, 0 < k → k < l.length - 1 → (k - 1) / 2 = p → wE rkE l2 p ≤ wE rkE l2 k) → rY Q x l2 := fun hs =>
    fin l2 hp (by unfold vM; rw [hl2]; exact hd.stop hs)
  refine fB (fun e => ?_) (fun e => stop (fun k k1 k2 k3 => by simp at e; omega))
  have h1 : 2 * p + 1 < l.length - 1 := by simp at e; omega
  have hpx : l2[p]? = some (l2[p]'(by omega)) := List.getElem?_eq_getElem (by omega)
  have h1y : l2[2 * p + 1]? = some (l2[2 * p + 1]'(by omega)) := List.getElem?_eq_getElem (by omega)
  generalize l2[p]'(by omega) = u at hpx
  generalize l2[2 * p + 1]'(by omega) = v at h1y
  have go : ∀ (j : Nat) (z : eY), l2[j]? = some z → 0 < j → j < l.length - 1 → (j - 1) / 2 = p → (∀ k, 0 < k → k < l.length - 1 → (k - 1) / 2 = p → wE rkE l2 j ≤ wE rkE l2 k) → pz Q x l2 p (fun l2 n2 => X (l2, n2)) (j : Int) := by
    intro j z hz hj0 hjn hjp hmin
    unfold pz
    refine gG hz (gG hpx (vS (okl _ _ hz) (okl _ _ hpx) ?_))
    refine fB (fun e2 => ?_) (fun e2 => ?_)
    · refine stop (fun k k1 k2 k3 => ?_)
      have := hmin k k1 k2 k3
      rw [jm hz] at this
      rw [jm hpx]; simp at e2; omega
    · simp at e2
      simp only [Int.toNat_natCast]
      have h3 : (l2.set p z)[j]? = some ((l2.set p z)[j]'(by rw [List.length_set]; omega)) := List.getElem?_eq_getElem (by rw [List.length_set]; omega)
      refine gG h3 ?_
      refine hX (l.length - j) _ (by omega) ⟨j, rfl, by omega, (xQ hpx hz).trans hp, ?_⟩
      exact hd.step (Nat.zero_le _) hjn ⟨hj0, hjp⟩ hmin (by rw [jm hz, jm hpx]; exact e2) (fun k => Ae hpx hz k)
  refine fB (fun e2 => ?_) (fun e2 => ?_)
  · have h2 : 2 * p + 2 < l.length - 1 := by simp at e2; omega
    have h2z : l2[2 * p + 2]? = some (l2[2 * p + 2]'(by omega)) := List.getElem?_eq_getElem (by omega)
    generalize l2[2 * p + 2]'(by omega) = z at h2z
    refine gG h2z (gG h1y (vS (okl _ _ h2z) (okl _ _ h1y) ?_))
    unfold o8
    rw [ej2, ej1]
    refine fB (fun e3 => ?_) (fun e3 => ?_)
    · have e3' : rkE z < rkE v := by simpa using e3
      refine go (2 * p + 2) _ h2z (by omega) h2 (by omega) (fun k k1 k2 k3 => ?_)
      rcases (show k = 2 * p + 1 ∨ k = 2 * p + 2 by omega) with rfl | rfl
      · rw [jm h2z, jm h1y]; omega
      · exact Int.le_refl _
    · have e3' : ¬ rkE z < rkE v := by simpa using e3
      refine go (2 * p + 1) _ h1y (by omega) h1 (by omega) (fun k k1 k2 k3 => ?_)
      rcases (show k = 2 * p + 1 ∨ k = 2 * p + 2 by omega) with rfl | rfl
      · exact Int.le_refl _
      · rw [jm h2z, jm h1y]; omega
  · simp at e2
    unfold o8
    simp only [gY]
    rw [ej1]
    refine go (2 * p + 1) _ h1y (by omega) h1 (by omega) (fun k k1 k2 k3 => ?_)
    obtain rfl : k = 2 * p + 1 := by omega
    exact Int.le_refl _
end Go.Proofs.YtfjcgoiedlimdaaGreatDoor

/- Chapter texts of ours, as far as the claim needs them. -/
import Derived.Test.YtihjaehkdgdenaaSearch
namespace Go.Proofs.Ytihjaehkdgdenaa
open Go Go.RowKit
set_option linter.unusedVariables false
set_option linter.unusedSimpArgs false
def rkP (p : Int × Int) : Int := p.1 * kB + p.2
structure DInv (E : Nat → List (Nat × Int)) (S : List Nat) (N : Nat) (A : Nat → Prop) (best : List (Int × Int)) (dn : List Bool) (l : List ((Int × Int) × Nat)) : Prop where
  lb : best.length = N
  ld : dn.length = N
  off : ∀ s : Nat, dn[s]? = some false → best[s]? = some (0, 0)
  on : ∀ s : Nat, dn[s]? = some true → ∃ (c : Int) (n : Nat), Wk E S s c n ∧ best[s]? = some (c, (n : Int) + 1) ∧ 0 ≤ c ∧ n + 1 ≤ dn.count true
  ent : ∀ x ∈ l, x.2 < N ∧ ∃ (c : Int) (n : Nat), Wk E S x.2 c n ∧ x.1 = (c, (n : Int) + 1) ∧ 0 ≤ c ∧ n ≤ dn.count true
  mono : ∀ x ∈ l, ∀ (s : Nat) b, dn[s]? = some true → best[s]? = some b → rkP b ≤ rkP x.1
  st : ∀ s ∈ S, (dn[s]? = some true ∧ ∃ b, best[s]? = some b ∧ rkP b ≤ 1) ∨ ((0, 1), s) ∈ l
  rel : ∀ (s : Nat) b, dn[s]? = some true → best[s]? = some b → A s ∨ ∀ e ∈ E s, (dn[e.1]? = some true ∧ ∃ b', best[e.1]? = some b' ∧ rkP b' ≤ rkP b + e.2 * kB + 1) ∨ ((b.1 + e.2, b.2 + 1), e.1) ∈ l
structure DR (E : Nat → List (Nat × Int)) (S : List Nat) (N : Nat) (s0 : Nat) (b0 : Int × Int) (L R : List (Nat × Int)) (best : List (Int × Int)) (dn : List Bool) (l : List ((Int × Int) × Nat)) : Prop where
  base : DInv E S N (· = s0) best dn l
  at0 : best[s0]? = some b0
  on0 : dn[s0]? = some true
  all : E s0 = L ++ R
  done : ∀ e ∈ L, ((b0.1 + e.2, b0.2 + 1), e.1) ∈ l
  dle : ∀ (s : Nat) b, dn[s]? = some true → best[s]? = some b → rkP b ≤ rkP b0
theorem count_set {dn : List Bool} {s : Nat} (h : dn[s]? = some false) : (dn.set s true).count true = dn.count true + 1 := by
  induction dn generalizing s with
  | nil => simp at h
  | cons x r ih =>
    cases s with
    | zero => simp at h; subst h; simp
    | succ s => simp at h; simp only [List.set_cons_succ, List.count_cons, ih h]; omega
section
variable {E : Nat → List (Nat × Int)} {S : List Nat} {N : Nat} {K : Int} {A : Nat → Prop} {best : List (Int × Int)} {dn : List Bool} {l l' : List ((Int × Int) × Nat)}
theorem DInv.perm (h : DInv E S N A best dn l) (hp : l'.Perm l) : DInv E S N A best dn l' :=
  ⟨h.lb, h.ld, h.off, h.on, fun x hx => h.ent x (hp.mem_iff.1 hx), fun x hx => h.mono x (hp.mem_iff.1 hx), fun s hs => (h.st s hs).imp id hp.mem_iff.2,
    fun s b h1 h2 => (h.rel s b h1 h2).imp id (fun h3 e he => (h3 e he).imp id hp.mem_iff.2)⟩
theorem DR.perm {s0 : Nat} {b0 : Int × Int} {L R : List (Nat × Int)} (h : DR E S N s0 b0 L R best dn l) (hp : l'.Perm l) : DR E S N s0 b0 L R best dn l' :=
  ⟨h.base.perm hp, h.at0, h.on0, h.all, fun e he => hp.mem_iff.2 (h.done e he), h.dle⟩
theorem DInv.skip {x : (Int × Int) × Nat} (h : DInv E S N (fun _ => False) best dn (x :: l)) (hx : dn[x.2]? = some true) : DInv E S N (fun _ => False) best dn l := by
  obtain ⟨c, n, w, hb, h0, hn⟩ := h.on x.2 hx
  have hm := h.mono x List.mem_cons_self x.2 _ hx hb
  refine ⟨h.lb, h.ld, h.off, h.on, fun y hy => h.ent y (List.mem_cons_of_mem _ hy), fun y hy => h.mono y (List.mem_cons_of_mem _ hy), fun s hs => ?_, fun s b h1 h2 => ?_⟩
  · rcases h.st s hs with h3 | h3
    · exact .inl h3
    · rcases List.mem_cons.1 h3 with h4 | h4
      · subst h4; exact .inl ⟨hx, _, hb, by simpa [rkP] using hm⟩
      · exact .inr h4
  · rcases h.rel s b h1 h2 with h3 | h3
    · exact h3.elim
    · refine .inr fun e he => ?_
      rcases h3 e he with h4 | h4
      · exact .inl h4
      · rcases List.mem_cons.1 h4 with h5 | h5
        · subst h5; refine .inl ⟨hx, _, hb, ?_⟩
          simp only [rkP] at hm ⊢
          rw [Int.add_mul] at hm; omega
        · exact .inr h5
theorem DInv.open_ {x : (Int × Int) × Nat} (h : DInv E S N (fun _ => False) best dn (x :: l)) (hmin : ∀ y ∈ l, rkP x.1 ≤ rkP y.1) (hx : dn[x.2]? = some false) :
    DR E S N x.2 x.1 [] (E x.2) (best.set x.2 x.1) (dn.set x.2 true) l := by
  have hlt := (List.getElem?_eq_some_iff.1 hx).1
  have hlb : x.2 < best.length := by rw [h.lb, ← h.ld]; exact hlt
  have hcnt := count_set hx
  have gd : ∀ s : Nat, (dn.set x.2 true)[s]? = if x.2 = s then some true else dn[s]? := fun s => by
    rw [List.getElem?_set]; split
    · rename_i e; subst e; first | rfl | simp [hlt]
    · rfl
  have gb : ∀ s : Nat, (best.set x.2 x.1)[s]? = if x.2 = s then some x.1 else best[s]? := fun s => by
    rw [List.getElem?_set]; split
    · rename_i e; subst e; first | rfl | simp [hlb]
    · rfl
  obtain ⟨_, c, n, w, ex, h0, hn⟩ := h.ent x List.mem_cons_self
  have old : ∀ (s : Nat) b, x.2 ≠ s → (dn.set x.2 true)[s]? = some true → (best.set x.2 x.1)[s]? = some b → dn[s]? = some true ∧ best[s]? = some b := fun s b hne h1 h2 => by
    rw [gd, if_neg hne] at h1; rw [gb, if_neg hne] at h2; exact ⟨h1, h2⟩
  have keep : ∀ (s : Nat) (r : Int), (dn[s]? = some true ∧ ∃ b, best[s]? = some b ∧ rkP b ≤ r) → (dn.set x.2 true)[s]? = some true ∧ ∃ b, (best.set x.2 x.1)[s]? = some b ∧ rkP b ≤ r := fun s r ⟨h1, b, h2, h3⟩ => by
    have hne : x.2 ≠ s := fun e => by rw [e] at hx; rw [hx] at h1; cases h1
    exact ⟨by rw [gd, if_neg hne]; exact h1, b, by rw [gb, if_neg hne]; exact h2, h3⟩
  have dle : ∀ (s : Nat) b, (dn.set x.2 true)[s]? = some true → (best.set x.2 x.1)[s]? = some b → rkP b ≤ rkP x.1 := fun s b h1 h2 => by
    by_cases e : x.2 = s
    · rw [gb, if_pos e] at h2; injection h2 with h2; rw [h2]; exact Int.le_refl _
    · obtain ⟨h3, h4⟩ := old s b e h1 h2
      exact h.mono x List.mem_cons_self s b h3 h4
  refine ⟨⟨by rw [List.length_set]; exact h.lb, by rw [List.length_set]; exact h.ld, fun s h1 => ?_, fun s h1 => ?_, fun y hy => ?_, fun y hy s b h1 h2 => ?_, fun s hs => ?_, fun s b h1 h2 => ?_⟩, by rw [gb, if_pos rfl], by rw [gd, if_pos rfl], by simp, fun e he => (by cases he), dle⟩
  · rw [gd] at h1; split at h1
    · cases h1
    · rename_i e; rw [gb, if_neg e]; exact h.off s h1
  · by_cases e : x.2 = s
    · subst e; exact ⟨c, n, w, by rw [gb, if_pos rfl, ex], h0, by rw [hcnt]; omega⟩
    · rw [gd, if_neg e] at h1
      obtain ⟨c', n', w', hb', h0', hn'⟩ := h.on s h1
      exact ⟨c', n', w', by rw [gb, if_neg e]; exact hb', h0', by rw [hcnt]; omega⟩
  · obtain ⟨hN, c', n', w', ex', h0', hn'⟩ := h.ent y (List.mem_cons_of_mem _ hy)
    exact ⟨hN, c', n', w', ex', h0', by rw [hcnt]; omega⟩
  · exact Int.le_trans (dle s b h1 h2) (hmin y hy)
  · rcases h.st s hs with h3 | h3
    · exact .inl (keep s 1 h3)
    · rcases List.mem_cons.1 h3 with h4 | h4
      · subst h4; exact .inl ⟨by rw [gd, if_pos rfl], _, by rw [gb, if_pos rfl], by simp [rkP]⟩
      · exact .inr h4
  · by_cases e : x.2 = s
    · exact .inl e.symm
    · obtain ⟨h3, h4⟩ := old s b e h1 h2
      rcases h.rel s b h3 h4 with h5 | h5
      · exact h5.elim
      · refine .inr fun f hf => ?_
        rcases h5 f hf with h6 | h6
        · exact .inl (keep f.1 _ h6)
        · rcases List.mem_cons.1 h6 with h7 | h7
          · subst h7; refine .inl ⟨by rw [gd, if_pos rfl], _, by rw [gb, if_pos rfl], ?_⟩
            simp only [rkP]; rw [Int.add_mul]; omega
          · exact .inr h7
theorem DR.push {s0 : Nat} {b0 : Int × Int} {L R : List (Nat × Int)} {t : Nat} {k : Int} (h : DR E S N s0 b0 L ((t, k) :: R) best dn l) (hE : GoodE E N K) : DR E S N s0 b0 (L ++ [(t, k)]) R best dn (((b0.1 + k, b0.2 + 1), t) :: l) := by
  have hkB : kB = 1048576 := rfl
  have he : (t, k) ∈ E s0 := by rw [h.all]; simp
  have hs0 : s0 < N := by rw [← h.base.lb]; exact (List.getElem?_eq_some_iff.1 h.at0).1
  obtain ⟨ht, hk, _⟩ := (hE s0 hs0).2 _ he
  simp only at ht hk
  obtain ⟨c, n, w, hb, h0, hn⟩ := h.base.on s0 h.on0
  have eb : b0 = (c, (n : Int) + 1) := by have := h.at0; rw [hb] at this; injection this with this; exact this.symm
  refine ⟨⟨h.base.lb, h.base.ld, h.base.off, h.base.on, fun y hy => ?_, fun y hy s b h1 h2 => ?_, fun s hs => (h.base.st s hs).imp id (List.mem_cons_of_mem _), fun s b h1 h2 => ?_⟩, h.at0, h.on0, by rw [h.all]; simp, fun e he => ?_, h.dle⟩
  · rcases List.mem_cons.1 hy with hy | hy
    · subst hy; refine ⟨ht, c + k, n + 1, w.step he, ?_, by omega, by omega⟩
      rw [eb]; simp only [Prod.mk.injEq]; exact ⟨trivial, by omega⟩
    · exact h.base.ent y hy
  · rcases List.mem_cons.1 hy with hy | hy
    · subst hy
      refine Int.le_trans (h.dle s b h1 h2) ?_
      simp only [rkP]; rw [Int.add_mul, hkB]; omega
    · exact h.base.mono y hy s b h1 h2
  · exact (h.base.rel s b h1 h2).imp id (fun h3 e he => (h3 e he).imp id (List.mem_cons_of_mem _))
  · rcases List.mem_append.1 he with he | he
    · exact List.mem_cons_of_mem _ (h.done e he)
    · simp at he; subst he; exact List.mem_cons_self
theorem DR.close {s0 : Nat} {b0 : Int × Int} {L : List (Nat × Int)} (h : DR E S N s0 b0 L [] best dn l) : DInv E S N (fun _ => False) best dn l :=
  ⟨h.base.lb, h.base.ld, h.base.off, h.base.on, h.base.ent, h.base.mono, h.base.st, fun s b h1 h2 => by
    rcases h.base.rel s b h1 h2 with h3 | h3
    · subst h3
      have := h.at0; rw [h2] at this; injection this with this; subst this
      have ha := h.all; rw [List.append_nil] at ha
      exact .inr fun e he => .inr (h.done e (by rw [← ha]; exact he))
    · exact .inr h3⟩
def keyP (b : Int × Int) : Int := if b.2 = 0 then -1 else b.1 * kB + b.2 - 1
theorem DInv.least (h : DInv E S N (fun _ => False) best dn []) : Least E S N (best.map keyP) := by
  have hmin : ∀ s c n, Wk E S s c n → dn[s]? = some true ∧ ∃ b, best[s]? = some b ∧ rkP b ≤ c * kB + n + 1 := by
    intro s c n w
    induction w with
    | start hs =>
      rcases h.st _ hs with ⟨h1, b, h2, h3⟩ | h1
      · exact ⟨h1, b, h2, by simpa using h3⟩
      · cases h1
    | step w he ih =>
      obtain ⟨h1, b, h2, h3⟩ := ih
      rcases h.rel _ b h1 h2 with h4 | h4
      · exact h4.elim
      · rcases h4 _ he with ⟨h5, b', h6, h7⟩ | h5
        · exact ⟨h5, b', h6, by rw [Int.add_mul]; push_cast; simp only at h7; omega⟩
        · cases h5
  have val : ∀ s : Nat, dn[s]? = some true → ∃ (c : Int) (n : Nat), Wk E S s c n ∧ best[s]? = some (c, (n : Int) + 1) ∧ 0 ≤ c ∧ n < N ∧ keyP (c, (n : Int) + 1) = c * kB + n := fun s hs => by
    obtain ⟨c, n, w, hb, h0, hn⟩ := h.on s hs
    have hc : dn.count true ≤ dn.length := List.count_le_length
    rw [h.ld] at hc
    refine ⟨c, n, w, hb, h0, by omega, ?_⟩
    unfold keyP; rw [if_neg (by simp only; omega)]; simp only; omega
  have hkB : kB = 1048576 := rfl
  refine ⟨by rw [List.length_map]; exact h.lb, fun s d hd => ?_, fun s d hd h0 => ?_, fun s c n w => ?_⟩
  · rw [List.getElem?_map] at hd
    obtain ⟨b, hb, rfl⟩ := Option.map_eq_some_iff.1 hd
    have hl : s < dn.length := by rw [h.ld, ← h.lb]; exact (List.getElem?_eq_some_iff.1 hb).1
    cases hq : dn[s] with
    | false =>
      have := h.off s (by rw [List.getElem?_eq_getElem hl, hq]); rw [hb] at this; injection this with this; subst this; simp [keyP]
    | true =>
      obtain ⟨c, n, _, hb', h0, _, hk⟩ := val s (by rw [List.getElem?_eq_getElem hl, hq])
      rw [hb] at hb'; injection hb' with hb'; subst hb'; rw [hk, hkB]; omega
  · rw [List.getElem?_map] at hd
    obtain ⟨b, hb, rfl⟩ := Option.map_eq_some_iff.1 hd
    have hl : s < dn.length := by rw [h.ld, ← h.lb]; exact (List.getElem?_eq_some_iff.1 hb).1
    cases hq : dn[s] with
    | false =>
      have := h.off s (by rw [List.getElem?_eq_getElem hl, hq]); rw [hb] at this; injection this with this; subst this; simp [keyP] at h0
    | true =>
      obtain ⟨c, n, w, hb', h1, hn, hk⟩ := val s (by rw [List.getElem?_eq_getElem hl, hq])
      rw [hb] at hb'; injection hb' with hb'; subst hb'
      exact ⟨c, n, w, hk, h1, hn⟩
  · obtain ⟨h1, b, h2, h3⟩ := hmin s c n w
    obtain ⟨c', n', _, hb', h4, _, hk⟩ := val s h1
    rw [h2] at hb'; injection hb' with hb'; subst hb'
    refine ⟨_, by rw [List.getElem?_map, h2]; rfl, by rw [hk, hkB]; omega, ?_⟩
    rw [hk]; simp only [rkP] at h3; omega
end
end Go.Proofs.Ytihjaehkdgdenaa

/- Chapter texts of ours, as far as the claim needs them. -/
import Derived.Test.YtbegofbmbcghdaaGreatDoorStackS
namespace Go.Proofs.YtbegofbmbcghdaaGreatDoor
open Go Go.RowKit
set_option linter.unusedVariables false
set_option linter.unusedSectionVars false
set_option linter.unusedSimpArgs false
theorem MH {xs ys : List Int} {Q : Bool → Prop} (h : Q (decide (xs = ys))) : xZ xs ys Q := by
  unfold xZ
  refine NQ (fun k x next hq => ?_) h
  unfold uq
  obtain ⟨h0, y, hy, hc⟩ := hq
  refine ⟨h0, y, hy, ?_⟩
  have : (x != y) = !(decide (x = y)) := by rw [Bool.eq_iff_iff]; simp
  dsimp only
  rw [this]; exact hc
theorem D6 {m : List eY} {s : List Layer} {x : Through} : ∀ {i : Nat}, x ∈ BB m s i → ∃ j : Nat, 1 ≤ j ∧ j < i ∧ x = ⟨(j : Int), (j : Int) + 1⟩
  | 0, h => by simp [BB] at h
  | i + 1, h => by
    rw [BB, List.mem_append] at h
    rcases h with h | h
    · obtain ⟨j, h1, h2, h3⟩ := D6 h; exact ⟨j, h1, by omega, h3⟩
    · split at h
      · rename_i hc; simp at h; exact ⟨i, hc.1, by omega, h⟩
      · simp at h
theorem FZ (m : List eY) (s : List Layer) : ∀ i, (BB m s i).Pairwise (fun a b => yG b a = false)
  | 0 => by simp [BB]
  | i + 1 => by
    rw [BB, List.pairwise_append]
    refine ⟨FZ m s i, by split <;> simp, fun a ha b hb => ?_⟩
    obtain ⟨j, h1, h2, rfl⟩ := D6 ha
    split at hb
    · simp at hb; subst hb; unfold yG; simp; omega
    · simp at hb
theorem Dx (base : List Through) : ∀ (l acc : List Through), acc.Nodup → (l.foldl (qR base) acc).Nodup
  | [], acc, h => h
  | x :: l, acc, h => by
    refine Dx base l _ ?_
    unfold qR
    split
    · exact h
    · rename_i hn
      rw [List.nodup_append]
      exact ⟨h, by simp, fun a ha b hb e => hn (.inr (by simp at hb; rw [← hb, ← e]; exact ha))⟩
theorem Du (base : List Through) : ∀ (l acc : List Through), (∀ x ∈ acc, x ∉ base) → ∀ x ∈ l.foldl (qR base) acc, x ∉ base
  | [], acc, h => h
  | y :: l, acc, h => by
    refine Du base l _ (fun x hx => ?_)
    unfold qR at hx
    split at hx
    · exact h x hx
    · rename_i hn
      rcases List.mem_append.1 hx with hx | hx
      · exact h x hx
      · simp at hx; subst hx; exact fun e => hn (.inl e)
theorem FX (base : List Through) : ∀ (l acc : List Through) (x : Through), x ∈ acc ∨ x ∈ l → x ∈ base ∨ x ∈ l.foldl (qR base) acc
  | [], acc, x, h => by
    rcases h with h | h
    · exact .inr h
    · simp at h
  | y :: l, acc, x, h => by
    by_cases hb : x ∈ base
    · exact .inl hb
    have hk : ∀ z ∈ acc, z ∈ qR base acc y := fun z hz => by
      unfold qR; split
      · exact hz
      · exact List.mem_append_left _ hz
    refine FX base l (qR base acc y) x ?_
    rcases h with h | h
    · exact .inl (hk x h)
    · rcases List.mem_cons.1 h with h | h
      · subst h
        unfold qR; split
        · rename_i hc; rcases hc with hc | hc
          · exact absurd hc hb
          · exact .inl hc
        · exact .inl (by simp)
      · exact .inr h
theorem O8 {m : List eY} {s : List Layer} {l : List Through} (h : lu m s l = 0) :
    (allOf m s l).Pairwise (fun a b => yG b a = false) ∧ (∀ x ∈ allOf m s l, 1 ≤ x.From ∧ x.From < x.To ∧ x.To ≤ (sW m s).length) ∧ (∀ x ∈ l, x ∈ allOf m s l) ∧ qh m s ∈ allOf m s l := by
  obtain ⟨h1, hll, hspan⟩ := EG h
  obtain ⟨hm, hsl, hc2, h0, _, hb⟩ := wu h1
  have hcp := yS m s
  have hcores := OY h1
  have hcm : ∀ x ∈ jl m s, ∃ j : Nat, 1 ≤ j ∧ j < (sW m s).length ∧ x = ⟨(j : Int), (j : Int) + 1⟩ := fun x hx => by rw [hcores] at hx; exact D6 hx
  have hpm : ∀ x ∈ uK (jl m s) (l ++ [qh m s]), (1 ≤ x.From ∧ x.From < x.To ∧ x.To ≤ (sW m s).length) ∧ x ∉ jl m s := fun x hx => by
    refine ⟨?_, Du _ _ _ (by simp) x hx⟩
    rcases zJ _ _ _ _ hx with h2 | h2
    · simp at h2
    · rcases List.mem_append.1 h2 with h2 | h2
      · exact hspan x h2
      · simp at h2; subst h2; unfold qh; simp only; omega
  have hnd : (vZ (uK (jl m s) (l ++ [qh m s]))).Nodup := (nJ _).nodup_iff.2 (Dx _ _ _ (by simp))
  have hpm' : ∀ x ∈ vZ (uK (jl m s) (l ++ [qh m s])), (1 ≤ x.From ∧ x.From < x.To ∧ x.To ≤ (sW m s).length) ∧ x ∉ jl m s := fun x hx => hpm x ((nJ _).mem_iff.1 hx)
  have hin : ∀ x, (x ∈ l ∨ x = qh m s) → x ∈ allOf m s l := fun x hx => by
    unfold allOf
    rw [List.mem_append, (nJ _).mem_iff]
    exact FX _ _ _ x (.inr (by rw [List.mem_append]; simpa using hx))
  refine ⟨?_, fun x hx => ?_, fun x hx => hin x (.inl hx), hin _ (.inr rfl)⟩
  · unfold allOf
    rw [List.pairwise_append]
    refine ⟨by rw [hcores]; exact FZ m s _, ?_, fun a ha b hb => ?_⟩
    · refine (List.Pairwise.and (Ap _) hnd).imp_of_mem (fun {a b} ha hb hab => ?_)
      obtain ⟨⟨a1, a2, a3⟩, _⟩ := hpm' a ha
      obtain ⟨⟨b1, b2, b3⟩, _⟩ := hpm' b hb
      obtain ⟨hs, hne⟩ := hab
      have hs : ¬ rJ b a < 0 := hs
      rw [rZ, gV (by omega) (by omega), gV (by omega) (by omega)] at hs
      cases hl : yG b a with
      | false => rfl
      | true =>
        exfalso
        unfold yG at hl
        simp only [Bool.and_eq_true, decide_eq_true_eq] at hl
        apply hne
        cases a; cases b
        simp only at *
        rw [Through.mk.injEq]; omega
    · obtain ⟨j, h2, h3, rfl⟩ := hcm a ha
      obtain ⟨⟨b1, b2, b3⟩, bn⟩ := hpm' b hb
      cases hl : yG b ⟨(j : Int), (j : Int) + 1⟩ with
      | false => rfl
      | true =>
        exfalso
        unfold yG at hl
        simp only [Bool.and_eq_true, decide_eq_true_eq] at hl
        apply bn
        have : b = ⟨(j : Int), (j : Int) + 1⟩ := by
          cases b; simp only at *; rw [Through.mk.injEq]; omega
        rw [this]; exact ha
  · unfold allOf at hx
    rcases List.mem_append.1 hx with hx | hx
    · obtain ⟨j, h2, h3, rfl⟩ := hcm x hx; simp only; omega
    · exact (hpm' x hx).1
def pR (l : List Through) (x : Through) : Nat → List Int
  | 0 => []
  | k + 1 => pR l x k ++ (if l.getD k default = x then [(k : Int)] else [])
theorem EN (l : List Through) (x : Through) : ∀ k, (pR l x k).length ≤ k
  | 0 => by simp [pR]
  | k + 1 => by have := EN l x k; simp only [pR, List.length_append]; split <;> simp <;> omega
theorem AL {l : List Through} {x : Through} {h : Int} : ∀ {k : Nat}, h ∈ pR l x k ↔ ∃ i : Nat, i < k ∧ h = (i : Int) ∧ l.getD i default = x
  | 0 => by simp [pR]
  | k + 1 => by
    rw [pR, List.mem_append, AL]
    constructor
    · rintro (⟨i, h1, h2, h3⟩ | h1)
      · exact ⟨i, by omega, h2, h3⟩
      · split at h1
        · rename_i hc; simp at h1; exact ⟨k, by omega, h1, hc⟩
        · simp at h1
    · rintro ⟨i, h1, h2, h3⟩
      by_cases he : i = k
      · subst he; exact .inr (by rw [if_pos h3, h2]; simp)
      · exact .inl ⟨i, by omega, h2, h3⟩
def GU (m : List eY) (s : List Layer) (l : List Through) (i : Nat) : gU :=
  ⟨((allOf m s l).getD i default).From, ((allOf m s l).getD i default).To, decide ((i : Int) < ((jl m s).length : Int)), pR l ((allOf m s l).getD i default) l.length⟩
def xw (m : List eY) (s : List Layer) (l : List Through) : Nat → List gU
  | 0 => []
  | i + 1 => xw m s l i ++ [GU m s l i]
theorem uo (m : List eY) (s : List Layer) (l : List Through) : ∀ i, (xw m s l i).length = i
  | 0 => rfl
  | i + 1 => by rw [xw, List.length_append, uo]; rfl
theorem Gh (m : List eY) (s : List Layer) (l : List Through) : ∀ (i k : Nat), k < i → (xw m s l i)[k]? = some (GU m s l k)
  | i + 1, k, h => by
    rw [xw]
    by_cases he : k = i
    · subst he; rw [List.getElem?_append_right (by rw [uo]; omega), uo]; simp
    · rw [List.getElem?_append_left (by rw [uo]; omega)]; exact Gh m s l i k (by omega)
def tK (m : List eY) (s : List Layer) (l : List Through) : List gU × Int :=
  if lu m s l ≠ 0 then ([], lu m s l) else (xw m s l (allOf m s l).length, 0)
theorem JZ {m : List eY} {s : List Layer} {l : List Through} : (allOf m s l).length ≤ s.length + l.length + 1 := by
  unfold allOf
  rw [List.length_append, (nJ _).length_eq]
  have h1 := F7 m s
  have h2 := zQ (jl m s) (l ++ [qh m s]) []
  have h3 : (uK (jl m s) (l ++ [qh m s])).length ≤ l.length + 1 := by unfold uK; simpa using h2
  omega
theorem Rq {m : List eY} {s : List Layer} {l : List Through} (h : lu m s l = 0) : ∀ x ∈ l, yF x := fun x hx => by
  obtain ⟨h1, _, hspan⟩ := EG h
  obtain ⟨_, hsl, _⟩ := wu h1
  have := hspan x hx
  have hcp := yS m s
  unfold P7 at this; unfold yF; omega
theorem GK {m : List eY} {s : List Layer} {l : List Through} (hmf : Fits.fits m) (hf : Fits.fits s) {Q : List gU → Int → Prop} (h : Q (tK m s l).1 (tK m s l).2) : qm m s l Q := by
  unfold qm
  refine Dz hmf hf (eU (fun e => ?_) (fun e => ?_))
  · have e : lu m s l ≠ 0 := by simpa using e
    rw [show tK m s l = ([], lu m s l) by unfold tK; rw [if_pos e]] at h; exact h
  have e : lu m s l = 0 := by simpa using e
  rw [show tK m s l = (xw m s l (allOf m s l).length, 0) by unfold tK; rw [if_neg (fun hh => hh e)]] at h
  obtain ⟨h1, hll, hspan⟩ := EG e
  obtain ⟨hm, hsl, _, _, _, hb⟩ := wu h1
  have hal := JZ (m := m) (s := s) (l := l)
  refine BV hm hsl (Rq e) hll ?_
  refine iQ (fun i acc => acc = xw m s l i) rfl (fun i x acc hx hI next hn => ?_) (fun acc hI => by subst hI; exact h)
  have hX := hn _ rfl
  have hi := TL hx
  have hpl := uo m s l i
  rw [xw, ← hI] at hX
  rw [← hI] at hpl
  unfold GU at hX
  rw [tZ hx] at hX
  unfold qc
  refine iQ (fun k acc2 => acc2 = pR l x k) rfl (fun k y acc2 hy hJ next2 hn2 => ?_) (fun acc2 hJ => ?_)
  · have hY := hn2 _ rfl
    have hk := TL hy
    have hhl := EN l x k
    rw [pR, ← hJ, tZ hy] at hY
    rw [← hJ] at hhl
    unfold o9
    refine eU (fun e2 => ?_) (fun e2 => ?_)
    · rw [if_pos (by simpa using e2)] at hY
      exact ⟨lX (by simp only [List.length_append, List.length_singleton]; omega) (by omega), hY⟩
    · rw [if_neg (by simpa using e2), List.append_nil] at hY; exact hY
  · subst hJ
    exact ⟨lX (by simp only [List.length_append, List.length_singleton]; omega) (by omega), hX⟩
theorem Oa {all : List Through} (hp : all.Pairwise (fun a b => yG b a = false)) {i : Nat} {b : Through} (hb : all[i]? = some b) : ∀ a ∈ all.take i, yG b a = false := fun a ha => by
  obtain ⟨j, hj1, hj2⟩ := List.getElem_of_mem ha
  rw [List.length_take] at hj1
  have hi := TL hb
  have := List.pairwise_iff_getElem.1 hp j i (by omega) hi (by omega)
  rw [List.getElem?_eq_getElem hi] at hb
  injection hb with hb
  rw [List.getElem_take] at hj2
  rw [hj2, hb] at this; exact this
theorem OX (b : Through) : yG b b = true := by unfold yG; simp
end Go.Proofs.YtbegofbmbcghdaaGreatDoor

/- Chapter texts of ours, as far as the claim needs them. -/
import Derived.Test.YtbegofbmbcghdaaGreatDoorHoT
namespace Go.Proofs.YtbegofbmbcghdaaGreatDoor
open Go Go.RowKit
set_option linter.unusedVariables false
set_option linter.unusedSectionVars false
set_option linter.unusedSimpArgs false
def tN (l : List zT) (b : Through) : Nat → List Int
  | 0 => []
  | k + 1 => tN l b k ++ (if uw (l.getD k default) = b then [(k : Int)] else [])
def MR (o : Order) (x : zT) : iM := ⟨x.At, x.Size, Kw o x.From x.To, x.Plated⟩
def kL (o : Order) (b : Through) : Nat → List iM
  | 0 => []
  | k + 1 => kL o b k ++ (if uw (o.Bores.getD k default) = b then [MR o (o.Bores.getD k default)] else [])
theorem D5 (o : Order) (b : Through) : ∀ k, (tN o.Bores b k).length = (kL o b k).length
  | 0 => rfl
  | k + 1 => by simp only [tN, kL, List.length_append, D5 o b k]; split <;> rfl
theorem I8 (l : List zT) (b : Through) : ∀ k, (tN l b k).length ≤ k
  | 0 => by simp [tN]
  | k + 1 => by have := I8 l b k; simp only [tN, List.length_append]; split <;> simp <;> omega
theorem Iu (l : List zT) (b : Through) : ∀ k, k ≤ l.length → (tN l b k).length = ((l.take k).filter (fun x => decide (uw x = b))).length
  | 0, _ => by simp [tN]
  | k + 1, h => by
    have hx : l[k]? = some (l.getD k default) := by rw [List.getD_eq_getElem?_getD, List.getElem?_eq_getElem (by omega)]; rfl
    rw [tN, List.length_append, Iu l b k (by omega), List.take_add_one, hx, List.filter_append, List.length_append]
    congr 1
    generalize l.getD k default = y
    by_cases hc : uw y = b <;> simp [hc]
theorem LG {l : List zT} {b : Through} {x : Int} : ∀ {k : Nat}, x ∈ tN l b k → ∃ i : Nat, i < k ∧ x = (i : Int) ∧ uw (l.getD i default) = b
  | 0, h => by simp [tN] at h
  | k + 1, h => by
    rw [tN, List.mem_append] at h
    rcases h with h | h
    · obtain ⟨i, h1, h2, h3⟩ := LG h; exact ⟨i, by omega, h2, h3⟩
    · split at h
      · rename_i hc; simp at h; exact ⟨k, by omega, h, hc⟩
      · simp at h
theorem Dj {o : Order} {b : Through} {x : iM} : ∀ {k : Nat}, x ∈ kL o b k → ∃ i : Nat, i < k ∧ x = MR o (o.Bores.getD i default) ∧ uw (o.Bores.getD i default) = b
  | 0, h => by simp [kL] at h
  | k + 1, h => by
    rw [kL, List.mem_append] at h
    rcases h with h | h
    · obtain ⟨i, h1, h2, h3⟩ := Dj h; exact ⟨i, by omega, h2, h3⟩
    · split at h
      · rename_i hc; simp at h; exact ⟨k, by omega, h, hc⟩
      · simp at h
theorem IG {α β : Type} [DecidableEq β] (f : α → β) (A : List β) (b : β) (hb : b ∉ A) : ∀ l : List α, (l.filter (fun x => decide (f x ∈ A ++ [b]))).length = (l.filter (fun x => decide (f x ∈ A))).length + (l.filter (fun x => decide (f x = b))).length
  | [] => rfl
  | x :: r => by
    have ih := IG f A b hb r
    by_cases h1 : f x ∈ A
    · have h2 : f x ≠ b := fun e => hb (e ▸ h1)
      have h3 : f x ∈ A ++ [b] := List.mem_append_left _ h1
      simp only [List.filter_cons, h1, h2, h3, decide_true, decide_false, if_true, Bool.false_eq_true, if_false, List.length_cons]; omega
    · by_cases h2 : f x = b
      · have h3 : f x ∈ A ++ [b] := by rw [h2]; simp
        simp only [List.filter_cons, h1, h2 ▸ h1, h2, decide_true, decide_false, if_true, Bool.false_eq_true, if_false, List.length_cons]
        rw [h2] at h3
        simp only [h3, decide_true, if_true, List.length_cons]; omega
      · have h3 : f x ∉ A ++ [b] := by simp [h1, h2]
        simp only [List.filter_cons, h1, h2, h3, decide_false, Bool.false_eq_true, if_false]; exact ih
theorem KY {t : List Bit} {l : List iM} {near : Int} (h : lV t l near = 0) : qf t = 0 := by
  unfold lV at h
  split at h
  · rename_i hn; exact absurd h hn
  · rename_i hn; exact Decidable.not_not.1 hn
def mr (l : List Job) : Nat := (l.flatMap (·.Holes)).length
def total (l : List gy) : Nat := (l.map (fun d => mr d.Jobs + d.Missing.length)).sum
structure Oi (o : Order) (d : gy) : Prop where
  holes : ∀ j ∈ d.Jobs, ∀ h ∈ j.Holes, ∃ b ∈ o.Bores, uw b = ⟨d.gU.From, d.gU.To⟩ ∧ h.Depth = Kw o b.From b.To
  miss : ∀ x ∈ d.Missing, ∃ (k : Nat) (b : zT), x = (k : Int) ∧ o.Bores[k]? = some b ∧ uw b = ⟨d.gU.From, d.gU.To⟩
  jobs : d.Jobs.length ≤ 100
  press : 1 ≤ d.gU.From ∧ d.gU.From < d.gU.To ∧ d.gU.To ≤ (sW o.Materials o.Stack).length
theorem Nq {o : Order} {bits : List Bit} {near : Int} (hf : Fits.fits o) (hbf : Fits.fits bits) {Q : List gy → Str → Int → Prop} (h0 : ∀ s f, f ≠ 0 → Q [] s f)
    (h1 : ∀ l : List gy, total l = o.Bores.length → o.Bores.length ≤ 500 → lG o.Materials o.Stack = 0 → l.length ≤ 1000 → (∀ d ∈ l, Oi o d) → (∀ b ∈ o.Bores, KF o b) → Q l [] 0) : rC o bits near Q := by
  obtain ⟨f1, f2, f3, f4, f5, f6, f7, f8, f9, f10, f11⟩ := hf
  have hff : Fits.fits o := ⟨f1, f2, f3, f4, f5, f6, f7, f8, f9, f10, f11⟩
  unfold rC yZ
  refine Rj hff (fun w hw => eU (fun e => h0 _ _ (by simpa using e)) (fun e => ?_))
  obtain ⟨hst, hbl⟩ := hw (by simpa using e)
  refine OG f3 f4 hst hbl (fun P l w hw => eU (fun _ => h0 _ _ hw) (fun e => absurd (by simpa using e) hw)) (fun l w hw hsp hmem hin => eU (fun e => absurd hw (by simpa using e)) (fun _ => ?_))
  obtain ⟨hpw, hrange, hlm, _⟩ := O8 hsp
  obtain ⟨_, hll, _⟩ := EG hsp
  have hsl := (wu hst).2.1
  have hal := JZ (m := o.Materials) (s := o.Stack) (l := l)
  refine iQ (fun k (r : List gy) => total r = (o.Bores.filter (fun x => decide (uw x ∈ (allOf o.Materials o.Stack l).take k))).length ∧ r.length ≤ k ∧ ∀ d ∈ r, Oi o d) ⟨by rw [show o.Bores.filter (fun x => decide (uw x ∈ (allOf o.Materials o.Stack l).take 0)) = [] from List.filter_eq_nil_iff.2 (fun a _ => by simp)]; rfl, by simp, by simp⟩ (fun k x r hx hI next hn => ?_) (fun r hI => ?_)
  · obtain ⟨i1, i2, i3⟩ := hI
    have hk := TL hx
    rw [uo] at hk
    rw [Gh _ _ _ _ k hk] at hx
    injection hx with hx
    have hb : (allOf o.Materials o.Stack l)[k]? = some ((allOf o.Materials o.Stack l).getD k default) := by rw [List.getD_eq_getElem?_getD, List.getElem?_eq_getElem hk]; rfl
    generalize hbe : (allOf o.Materials o.Stack l).getD k default = b at hb
    have hxf : x.From = b.From ∧ x.To = b.To ∧ x.Holes = pR l b l.length := by rw [← hx]; unfold GU; rw [hbe]; exact ⟨rfl, rfl, rfl⟩
    obtain ⟨g1, g2, g3⟩ := hxf
    have hbr := hrange b (List.mem_of_getElem? hb)
    have tk : (allOf o.Materials o.Stack l).take (k + 1) = (allOf o.Materials o.Stack l).take k ++ [b] := by rw [List.take_add_one, hb]; rfl
    have hnb : b ∉ (allOf o.Materials o.Stack l).take k := fun hm => by
      have := Oa hpw hb b hm
      rw [OX] at this; cases this
    have hstep := IG uw ((allOf o.Materials o.Stack l).take k) b hnb o.Bores
    rw [← tk] at hstep
    have hcnt := Iu o.Bores b o.Bores.length (Nat.le_refl _)
    rw [List.take_length] at hcnt
    unfold oq
    rw [g3]
    refine eU (fun e => hn _ ⟨?_, by omega, i3⟩) (fun e => ?_)
    · have he : (pR l b l.length).length = 0 := by simp at e; exact List.length_eq_zero_iff.2 e
      have hz : (o.Bores.filter (fun x => decide (uw x = b))).length = 0 := by
        rw [List.length_eq_zero_iff, List.filter_eq_nil_iff]
        intro c hc hd
        have hcb : uw c = b := of_decide_eq_true hd
        obtain ⟨i, hi⟩ := List.getElem?_of_mem (hmem c hc)
        have : (i : Int) ∈ pR l b l.length := AL.2 ⟨i, TL hi, rfl, by rw [tZ hi]; exact hcb⟩
        rw [List.length_eq_zero_iff.1 he] at this
        simp at this
      rw [i1, hstep, hz]; rfl
    · have hne : pR l b l.length ≠ [] := fun e0 => by rw [e0] at e; simp at e
      obtain ⟨h, hh⟩ : ∃ h, (pR l b l.length)[0]? = some h := ⟨_, List.getElem?_eq_getElem (List.length_pos_iff.2 hne)⟩
      obtain ⟨i, hi, rfl, hib⟩ := AL.1 (List.mem_of_getElem? hh)
      have hlb : l[i]? = some b := by rw [← hib, List.getD_eq_getElem?_getD, List.getElem?_eq_getElem hi]; rfl
      refine Nr (by omega) (by simpa using hh) (gW hlb ?_)
      refine iQ (fun k2 (s : List Int × List iM) => s = (tN o.Bores b k2, kL o b k2)) rfl (fun k2 y s hy hJ next2 hn2 => ?_) (fun s hJ => ?_)
      · subst hJ
        have hk2 := TL hy
        have hX := hn2 _ rfl
        have hl1 := I8 o.Bores b k2
        have hl2 := D5 o b k2
        rw [tN, kL, tZ hy] at hX
        have k4 : ∀ c, (c = true ↔ uw y = b) → lQ o k2 y (tN o.Bores b k2) (kL o b k2) (fun l5 l6 => next2 (l5, l6)) c := fun c hc => by
          unfold lQ
          refine eU (fun e => Js ⟨lX (by simp only [List.length_append, List.length_singleton]; omega) (by omega), ⟨lX (by simp only [List.length_append, List.length_singleton]; omega) (by omega), ?_⟩⟩) (fun e => ?_)
          · rw [if_pos (hc.1 e), if_pos (hc.1 e)] at hX; exact hX
          · have hno : ¬ uw y = b := fun hh => by rw [hc.2 hh] at e; cases e
            rw [if_neg hno, if_neg hno, List.append_nil, List.append_nil] at hX; exact hX
        unfold oD
        refine eU (fun e => k4 _ ⟨fun e2 => ?_, fun e2 => ?_⟩) (fun e => k4 _ ⟨fun e2 => (by cases e2), fun e2 => ?_⟩)
        · unfold uw; cases b; simp at e e2; simp [e, e2]
        · rw [← e2]; simp [uw]
        · rw [← e2] at e; simp [uw] at e
      · subst hJ
        dsimp only
        have hcl := I8 o.Bores b o.Bores.length
        have hnh := D5 o b o.Bores.length
        refine HY hbf ?_
        split
        rotate_left
        · rename_i hcf
          exact eU (fun _ => h0 _ _ hcf) (fun e => absurd (by simpa using e) hcf)
        rename_i hcf
        refine eU (fun e => by simp at e) (fun _ => ?_)
        have hnl := DZ bits (kL o b o.Bores.length) near (kL o b o.Bores.length).length
        refine iQ (fun k3 (l8 : List Int) => l8.length = k3 ∧ ∀ x ∈ l8, x ∈ tN o.Bores b o.Bores.length) ⟨rfl, by simp⟩ (fun k3 z l8 hz hK next3 hn3 => ?_) (fun l8 hK => ?_)
        · obtain ⟨j1, j2⟩ := hK
          have hk3 := TL hz
          have hzr := IA (List.mem_of_getElem? hz)
          have hg : (tN o.Bores b o.Bores.length)[z.toNat]? = some ((tN o.Bores b o.Bores.length)[z.toNat]'(by omega)) := List.getElem?_eq_getElem (by omega)
          unfold lS
          refine Nr hzr.1 hg ⟨lX (by simp only [List.length_append, List.length_singleton]; omega) (by omega), hn3 _ ⟨by simp only [List.length_append, List.length_singleton]; omega, fun x hx => ?_⟩⟩
          rcases List.mem_append.1 hx with hx | hx
          · exact j2 x hx
          · simp at hx; subst hx; exact List.mem_of_getElem? hg
        · obtain ⟨j1, j2⟩ := hK
          have hperm := Qj bits (kL o b o.Bores.length) near
          have hnone := congrArg List.length (Ig bits (kL o b o.Bores.length) near (kL o b o.Bores.length).length (Nat.le_refl _))
          rw [List.length_map] at hnone
          have hplen := hperm.length_eq
          rw [List.length_append] at hplen
          have htot : mr (yC bits (kL o b o.Bores.length) near bits.length) + l8.length = (o.Bores.filter (fun x => decide (uw x = b))).length := by
            unfold mr; omega
          refine ⟨lX (by simp only [List.length_append, List.length_singleton]; omega) (by omega), hn _ ⟨?_, by simp only [List.length_append, List.length_singleton]; omega, fun d hd => ?_⟩⟩
          · unfold total at i1 ⊢
            rw [List.map_append, List.sum_append, i1, hstep]
            simp only [List.map_cons, List.map_nil, List.sum_cons, List.sum_nil]
            omega
          · rcases List.mem_append.1 hd with hd | hd
            · exact i3 d hd
            · simp at hd
              subst hd
              refine ⟨fun j hj h hh => ?_, fun x hx => ?_, ?_, by simp only [g1, g2]; exact hbr⟩
              · have hm : h ∈ kL o b o.Bores.length := hperm.mem_iff.1 (List.mem_append_left _ (List.mem_flatMap.2 ⟨j, hj, hh⟩))
                obtain ⟨q, hq, hqe, hqs⟩ := Dj hm
                have hgq : o.Bores[q]? = some (o.Bores.getD q default) := by rw [List.getD_eq_getElem?_getD, List.getElem?_eq_getElem hq]; rfl
                exact ⟨_, List.mem_of_getElem? hgq, by rw [hqs]; simp only [g1, g2], by rw [hqe]; rfl⟩
              · obtain ⟨q, hq, hqe, hqs⟩ := LG (j2 x hx)
                have hgq : o.Bores[q]? = some (o.Bores.getD q default) := by rw [List.getD_eq_getElem?_getD, List.getElem?_eq_getElem hq]; rfl
                exact ⟨q, _, hqe, hgq, by rw [hqs]; simp only [g1, g2]⟩
              · have h3 := DN bits (kL o b o.Bores.length) near bits.length
                have h4 := (Ol (KY hcf)).1
                simp only; omega
  · obtain ⟨i1, i2, i3⟩ := hI
    rw [uo] at i1 i2
    refine h1 r ?_ hbl hst (by omega) i3 hin
    rw [i1, List.take_length, List.filter_eq_self.2]
    intro c hc
    exact decide_eq_true (hlm _ (hmem c hc))
end Go.Proofs.YtbegofbmbcghdaaGreatDoor

/- Chapter texts of ours, as far as the claim needs them. -/
import Derived.Test.YtbegofbmbcghdaaGreatDoorHoE
import Derived.Test.YtbegofbmbcghdaaGreatDoorHoN
import Derived.Test.YtbegofbmbcghdaaGreatDoorHoR
import Derived.Lib.ItoaLen
import Derived.Test.YtbegofbmbcghdaaGreatDoorStackU
namespace Go.Proofs.YtbegofbmbcghdaaGreatDoor
open Go Go.RowKit
set_option linter.unusedVariables false
set_option linter.unusedSectionVars false
set_option linter.unusedSimpArgs false
theorem SY : oM 3 = [51] := by decide +kernel
theorem Gg {Q : Bool → Prop} (h : Q true) : vY Q := by
  unfold vY zO jK
  refine eU (fun e => absurd e (by decide)) (fun _ => eU (fun e => absurd e (by decide)) (fun _ => ?_))
  show wW [] _
  refine ⟨1, ?_⟩
  show cnd (decide ((0 : Int) > 3000)) _ _
  refine eU (fun e => absurd e (by decide)) (fun _ => ⟨1, ?_⟩)
  show cnd ((0 : Int) != 0) _ _
  refine eU (fun e => absurd e (by decide)) (fun _ => ⟨⟨by decide, by decide⟩, ?_⟩)
  rw [SY]
  refine ⟨by decide, by decide, ⟨by decide, by decide⟩, ?_⟩
  refine ⟨1, ?_⟩
  show cnd _ _ _
  refine eU (fun e => absurd e (by decide)) (fun _ => ⟨by simp, ?_⟩)
  exact eU (fun _ => h) (fun e => by cases e)
theorem RV {n : Int} (h : IE n) : (oM n).length ≤ 21 := Lib.itoa_length_le n h.1 h.2
theorem Qq {s : Str} {f : Int} {Q : gY → Prop} (h : ∀ w : gY, w.fault = f → Q w) : iT s f Q :=
  eU (fun e => h _ (show f = 0 by simpa using e).symm) (fun _ => h _ rfl)
theorem JQ {o : Order} (hs : o.Stack.length ≤ 1000000) {Q : Int → Prop} (h : ∀ n : Nat, n ≤ o.Stack.length → Q (n : Int)) : qp o Q := by
  unfold qp
  refine iQ (fun k (n : Int) => ∃ m : Nat, n = (m : Int) ∧ m ≤ k) ⟨0, rfl, by omega⟩ (fun k x n hx hI next hn => ?_) (fun n hI => ?_)
  · obtain ⟨m, rfl, hm⟩ := hI
    have hk := TL hx
    unfold pY
    refine eU (fun _ => ?_) (fun _ => hn _ ⟨m, rfl, by omega⟩)
    rw [show w64 ((m : Int) + 1) = ((m + 1 : Nat) : Int) by rw [gV] <;> omega]
    exact hn _ ⟨m + 1, rfl, by omega⟩
  · obtain ⟨m, rfl, hm⟩ := hI
    exact h m hm
theorem Nb {o : Order} (hr : wK gK.Name o.Types) (hl : o.Types.length ≤ 200) (hp : ∀ x ∈ o.Types, x.Pins.length ≤ 200) {Q : Int → Prop} (h : ∀ r, Q r) : nV o Q := by
  unfold nV
  refine eU (fun _ => h _) (fun e => ?_)
  have hfl : o.Feet.length ≤ 200 := by have := of_decide_eq_false e; omega
  refine iQ (fun _ _ => True) trivial (fun k x s hx _ next hn => ?_) (fun s _ => h _)
  have hk := TL hx
  have hX := hn () trivial
  unfold mZ
  refine Hy hr (by omega) (fun i y hy _ => ?_) (fun _ => eU (fun _ => h _) (fun e => by simp at e))
  refine eU (fun _ => h _) (fun _ => eU (fun _ => h _) (fun e2 => ?_))
  have hsl : x.Spots.length ≤ 200 := by have := of_decide_eq_false e2; omega
  refine iQ (fun _ _ => True) trivial (fun k2 x2 s2 hx2 _ next2 hn2 => ?_) (fun s2 _ => nX (key := Gy.Typ) (by omega) (by omega) (eU (fun _ => h _) (fun _ => hX)))
  have hk2 := TL hx2
  have k4 : ∀ c, nD Q x k2 x2 (next2 ()) c := fun c => eU (fun _ => h _) (fun _ => nX (key := IU.Pin) (by omega) (by omega) (eU (fun _ => h _) (fun _ => hn2 _ trivial)))
  unfold ng
  exact gW hy (OA (by have := hp y (List.mem_of_getElem? hy); omega) fun _ => eU (fun _ => h _) (fun _ => eU (fun _ => k4 _) (fun _ => k4 _)))
theorem Rj {o : Order} (hf : Fits.fits o) {Q : gY → Prop} (h : ∀ w : gY, (w.fault = 0 → lG o.Materials o.Stack = 0 ∧ o.Bores.length ≤ 500) → Q w) : vC o Q := by
  obtain ⟨f1, f2, f3, f4, f5, f6, f7, f8, f9, f10, f11⟩ := hf
  have bad : ∀ {s : Str} {f : Int}, f ≠ 0 → iT s f fun w => Q w := fun hn => Qq (fun w hw => h w (fun e0 => absurd (hw.symm.trans e0) hn))
  unfold vC
  refine MX f1 (fun r hr => eU (fun e => bad (by simpa using e)) (fun e => ?_))
  obtain ⟨hl, hri, hp⟩ := hr (by simpa using e)
  refine zn f3 f4 (eU (fun e => bad (by simpa using e)) (fun e => ?_))
  have hsf : lG o.Materials o.Stack = 0 := by simpa using e
  have hsl := (wu hsf).2.1
  refine JQ (by omega) (fun n hn => eU (fun _ => bad (by decide)) (fun e => ?_))
  have hpl : o.Plots.length = n := by simp at e; omega
  refine iQ (fun _ _ => True) trivial (fun k x s hx _ next hnx => ?_) (fun s _ => ?_)
  · have hk := TL hx
    unfold rW
    have hi : IE (k : Int) := ⟨by omega, by omega⟩
    have := RV hi
    refine Gi (f5 x (List.mem_of_getElem? hx)) fun r => eU (fun e => ⟨hi, by simp only [List.length_cons, List.length_nil]; omega, bad (by simpa using e)⟩) (fun _ => hnx _ trivial)
  refine Gi f6 fun r => eU (fun e => bad (by simpa using e)) (fun _ => eU (fun _ => bad (by decide)) (fun e => ?_))
  have hb : o.Bores.length ≤ 500 := by have := of_decide_eq_false e; omega
  refine CZ f8 f9 (eU (fun e => bad (by simpa using e)) (fun _ => ?_))
  refine Nb hri hl hp fun r => eU (fun e => bad (by simpa using e)) (fun _ => ?_)
  exact Le f11.2.2.2.2.2.1 fun r => Qq (fun w hw => h w (fun _ => ⟨hsf, hb⟩))
theorem Nz {s : List Through} (hs : s.length ≤ 1000000) {Q : List Through → Prop} (h : ∀ r : List Through, (∀ x ∈ s, x ∈ r) → Q r) : tu s Q := by
  unfold tu
  refine eU (fun _ => h s (fun x hx => hx)) (fun e => ?_)
  have h2 : 2 ≤ s.length := by have := of_decide_eq_false e; omega
  refine sQ (fun n => ∃ k : Nat, n = (k : Int) ∧ 1 ≤ k ∧ k ≤ s.length) (fun n => s.length - n.toNat) ⟨1, rfl, by omega, by omega⟩ ?_
  rintro X _ ⟨k, rfl, hk1, hk⟩ hX
  unfold qX
  refine eU (fun e => ?_) (fun _ => h s (fun x hx => hx))
  have hlt : k < s.length := by have := of_decide_eq_true e; omega
  have e1 : w64 ((k : Int) - 1) = ((k - 1 : Nat) : Int) := by rw [gV] <;> omega
  have e2 : w64 ((k : Int) + 1) = ((k + 1 : Nat) : Int) := by rw [gV] <;> omega
  rw [e1, e2]
  refine gW (List.getElem?_eq_getElem hlt) (gW (List.getElem?_eq_getElem (by omega)) (eU (fun eq => ⟨by omega, ?_⟩) (fun _ => hX _ ⟨k + 1, rfl, by omega, by omega⟩ (by omega))))
  have heq : s[k] = s[k - 1]'(by omega) := of_decide_eq_true eq
  refine sQ (fun (t : List Through × Int × Int) => ∃ a b : Nat, t.2.1 = (a : Int) ∧ t.2.2 = (b : Int) ∧ t.1.length = s.length ∧ k ≤ a ∧ a < k + b ∧ 1 ≤ b ∧ b ≤ s.length - k ∧ (∀ i : Nat, a ≤ i → t.1[i]? = s[i]?) ∧ ∀ (i : Nat) x, i < k + b → s[i]? = some x → x ∈ t.1.take a) (fun t => s.length - t.2.2.toNat) ⟨k, 1, rfl, rfl, rfl, by omega, by omega, by omega, by omega, fun i _ => rfl, fun i x hi hx => ?_⟩ ?_
  · show x ∈ s.take k
    rcases Nat.lt_or_ge i k with h1 | h1
    · exact List.mem_of_getElem? (i := i) (by rw [List.getElem?_take, if_pos h1]; exact hx)
    · have : i = k := by omega
      subst this
      rw [List.getElem?_eq_getElem hlt] at hx
      injection hx with hx
      refine List.mem_of_getElem? (i := i - 1) ?_
      rw [List.getElem?_take, if_pos (by omega), List.getElem?_eq_getElem (by omega), ← heq, hx]
  rintro Y ⟨l2, _, _⟩ ⟨a, b, h1, h2', hl, ha, hab, hb, hbs, hsame, hall⟩ hY
  simp only at h1 h2' hl hsame hall
  subst h1; subst h2'
  unfold rF
  dsimp only
  have hsl : (seg l2 (k : Int) (s.length : Int)).length = s.length - k := by rw [seg_length (by omega)]; omega
  refine eU (fun e => ?_) (fun e => ?_)
  · have hbl : b < s.length - k := by have := of_decide_eq_true e; omega
    have e3 : w64 ((b : Int) - 1) = ((b - 1 : Nat) : Int) := by rw [gV] <;> omega
    have e4 : w64 ((b : Int) + 1) = ((b + 1 : Nat) : Int) := by rw [gV] <;> omega
    have e5 : w64 ((a : Int) + 1) = ((a + 1 : Nat) : Int) := by rw [gV] <;> omega
    rw [e3, e4, e5]
    have hx3 : (seg l2 (k : Int) (s.length : Int))[b]? = some (s[k + b]'(by omega)) := by
      rw [List.getElem?_eq_getElem (by omega)]
      have := AX (List.getElem?_eq_getElem (l := seg l2 (k : Int) (s.length : Int)) (i := b) (by omega))
      rw [Int.toNat_natCast, hsame _ (by omega), List.getElem?_eq_getElem (by omega)] at this
      exact this.symm
    have hx4 : (seg l2 (k : Int) (s.length : Int))[b - 1]? = some (s[k + (b - 1)]'(by omega)) := by
      rw [List.getElem?_eq_getElem (by omega)]
      have := AX (List.getElem?_eq_getElem (l := seg l2 (k : Int) (s.length : Int)) (i := b - 1) (by omega))
      rw [Int.toNat_natCast, hsame _ (by omega), List.getElem?_eq_getElem (by omega)] at this
      exact this.symm
    refine gW hx3 (gW hx4 (eU (fun _ => ?_) (fun e6 => ?_)))
    · refine gW (List.getElem?_eq_getElem (show a < l2.length by omega)) (hY _ ⟨a + 1, b + 1, rfl, rfl, by simpa using hl, by omega, by omega, by omega, by omega, fun i hi => ?_, fun i x hi hx => ?_⟩ (by simp only; omega))
      · simp only; rw [Int.toNat_natCast, List.getElem?_set_ne (by omega)]; exact hsame i (by omega)
      · simp only
        rw [Int.toNat_natCast, List.take_add_one, List.getElem?_set_self (by omega), List.take_set_of_le (Nat.le_refl _), List.mem_append]
        rcases Nat.lt_or_ge i (k + b) with h3 | h3
        · exact .inl (hall i x h3 hx)
        · have : i = k + b := by omega
          subst this
          rw [List.getElem?_eq_getElem (by omega)] at hx
          injection hx with hx
          exact .inr (by simp [hx])
    · have e6 : s[k + b]'(by omega) = s[k + (b - 1)]'(by omega) := by simpa using e6
      refine hY _ ⟨a, b + 1, rfl, rfl, hl, by omega, by omega, by omega, by omega, hsame, fun i x hi hx => ?_⟩ (by simp only; omega)
      rcases Nat.lt_or_ge i (k + b) with h3 | h3
      · exact hall i x h3 hx
      · have : i = k + b := by omega
        subst this
        rw [List.getElem?_eq_getElem (by omega)] at hx
        injection hx with hx
        refine hall (k + (b - 1)) x (by omega) ?_
        rw [List.getElem?_eq_getElem (by omega), ← e6, hx]
  · have hbe : b = s.length - k := by have := of_decide_eq_false e; omega
    have hz : 0 ≤ (a : Int) ∧ (a : Int) ≤ (l2.length : Int) ∧ (l2.length : Int) ≤ (l2.length : Int) := ⟨by omega, by omega, by omega⟩
    refine ⟨hz, ⟨by rw [gG]; omega, h _ (fun x hx => ?_)⟩⟩
    rw [Cb hz, List.append_assoc, List.take_append_of_le_length (by rw [List.length_take]; omega), Int.toNat_natCast, List.take_take, Nat.min_self]
    obtain ⟨i, hi⟩ := List.getElem?_of_mem hx
    exact hall i x (by have := TL hi; omega) hi
def uw (b : zT) : Through := ⟨w64 (b.From + 1), w64 (b.To + 1)⟩
def KF (o : Order) (b : zT) : Prop := (0 ≤ b.From ∧ b.From < o.Stack.length) ∧ (0 ≤ b.To ∧ b.To < o.Stack.length) ∧ b.From ≠ b.To
theorem OG {o : Order} (hmf : Fits.fits o.Materials) (hsf : Fits.fits o.Stack) (h0 : lG o.Materials o.Stack = 0) (hb : o.Bores.length ≤ 500) {Q : List gU → List Through → gY → Prop}
    (hbad : ∀ P l w, w.fault ≠ 0 → Q P l w) (hok : ∀ (l : List Through) (w : gY), w.fault = 0 → lu o.Materials o.Stack l = 0 → (∀ b ∈ o.Bores, uw b ∈ l) → (∀ b ∈ o.Bores, KF o b) → Q (xw o.Materials o.Stack l (allOf o.Materials o.Stack l).length) l w) : sS o Q := by
  have hsl := (wu h0).2.1
  unfold sS
  refine JQ (by omega) (fun n hn => ?_)
  refine iQ (fun k (l2 : List Through) => l2 = (o.Bores.take k).map uw ∧ ∀ b ∈ o.Bores.take k, KF o b) ⟨rfl, by simp⟩ (fun k x l2 hx hI next hnx => ?_) (fun l2 hI => ?_)
  · obtain ⟨rfl, hin⟩ := hI
    have hk := TL hx
    have bad : iT [98, 111, 114, 101, 115] 1 fun y6 => Q ([] : List gU) ([] : List Through) y6 := Qq (fun w hw => hbad _ _ w (by rw [hw]; decide))
    have tk : o.Bores.take (k + 1) = o.Bores.take k ++ [x] := by rw [List.take_add_one, hx]; rfl
    have k2 : ∀ c, (c = false → KF o x) → kE Q x ((o.Bores.take k).map uw) (fun l2 => next l2) c := fun c hc => by
      unfold kE
      refine eU (fun _ => bad) (fun e => ⟨lX (by simp only [List.length_append, List.length_singleton, List.length_map, List.length_take]; omega) (by omega), hnx _ ⟨by rw [tk, List.map_append]; rfl, fun b hbm => ?_⟩⟩)
      rw [tk, List.mem_append] at hbm
      rcases hbm with hbm | hbm
      · exact hin b hbm
      · simp at hbm; subst hbm; exact hc e
    have tr : ∀ {A B : Prop}, B → cnd true B A := fun hb => eU (fun _ => hb) (fun e => by cases e)
    unfold pM
    refine eU (fun _ => tr bad) (fun e1 => eU (fun _ => tr bad) (fun e2 => k2 _ (fun e3 => ?_)))
    have e3 : x.From ≠ x.To := by simpa using e3
    unfold within at e1 e2
    rcases Nat.eq_zero_or_pos n with hn0 | hn0
    · subst hn0
      simp at e1
      rw [gV (by omega) (by omega)] at e1
      omega
    · rw [gV (by omega) (by omega)] at e1 e2
      simp at e1 e2
      exact ⟨⟨by omega, by omega⟩, ⟨by omega, by omega⟩, e3⟩
  · obtain ⟨rfl, hin⟩ := hI
    rw [List.take_length] at hin ⊢
    show Ew _ _
    refine ⟨by simp only [List.length_map]; omega, fun x hx => ?_, fun t ht _ => Nz (by rw [ht.length_eq, List.length_map]; omega) (fun r hr => ?_)⟩
    · obtain ⟨b, hbm, rfl⟩ := List.mem_map.1 hx
      obtain ⟨⟨a1, a2⟩, ⟨a3, a4⟩, _⟩ := hin b hbm
      unfold uw Fv
      simp only
      rw [gV (by omega) (by omega), gV (by omega) (by omega)]
      omega
    refine GK hmf hsf ?_
    by_cases e : lu o.Materials o.Stack r = 0
    · rw [show tK o.Materials o.Stack r = (xw o.Materials o.Stack r (allOf o.Materials o.Stack r).length, 0) by unfold tK; rw [if_neg (fun hh => hh e)]]
      exact Qq (fun w hw => hok r w hw e (fun b hbm => hr _ (ht.mem_iff.2 (List.mem_map.2 ⟨b, hbm, rfl⟩))) hin)
    · rw [show tK o.Materials o.Stack r = ([], lu o.Materials o.Stack r) by unfold tK; rw [if_pos e]]
      exact Qq (fun w hw => hbad _ _ w (by rw [hw]; exact e))
def Iz (o : Order) (name : Str) : Int := match o.Materials.findIdx? (fun m => iw m.Name name == 0) with | some i => (o.Materials.getD i default).Thick | none => 0
theorem Jj {o : Order} {name : Str} {Q : Int → Prop} (h : Q (Iz o name)) : vg o name Q := by
  unfold vg
  unfold Iz at h
  refine iQ (fun k (_ : Unit) => ∀ i x, i < k → o.Materials[i]? = some x → (iw x.Name name == 0) = false) (fun i x hi => by omega) (fun k x s hx hI next hn => ?_) (fun s hI => ?_)
  · unfold rf
    refine eU (fun e => ?_) (fun e => hn _ (fun i y hi hy => ?_))
    · have : o.Materials.findIdx? (fun m => iw m.Name name == 0) = some k := by
        rw [List.findIdx?_eq_some_iff_getElem]
        refine ⟨TL hx, ?_, fun j hj => ?_⟩
        · rw [List.getElem?_eq_getElem (TL hx)] at hx; injection hx with hx; rw [hx]; exact e
        · have hj2 : j < o.Materials.length := Nat.lt_trans hj (TL hx)
          rw [hI j _ hj (List.getElem?_eq_getElem hj2)]; decide
      rw [this] at h
      simp only at h
      rw [tZ hx] at h
      exact h
    · rcases Nat.lt_or_ge i k with h1 | h1
      · exact hI i y h1 hy
      · have : i = k := by omega
        subst this; rw [hx] at hy; injection hy with hy; subst hy; exact e
  · have : o.Materials.findIdx? (fun m => iw m.Name name == 0) = none := by
      rw [List.findIdx?_eq_none_iff]
      intro x hx
      obtain ⟨i, hi⟩ := List.getElem?_of_mem hx
      exact hI i x (TL hi) hi
    rw [this] at h
    exact h
def Cj (o : Order) (fr to : Int) (s : Int × Int) (x : Layer) : Int × Int :=
  let n := if x.Name = [] then s.1 else w64 (s.1 + 1)
  if n ≥ fr ∧ (n < to ∨ (n = to ∧ x.Name ≠ [])) then (n, w64 (s.2 + Iz o x.eY)) else (n, s.2)
def Kw (o : Order) (fr to : Int) : Int := (o.Stack.foldl (Cj o fr to) (-1, 0)).2
theorem Js {o : Order} {fr to : Int} {Q : Int → Prop} (h : Q (Kw o fr to)) : vz o fr to Q := by
  unfold vz
  unfold Kw at h
  refine iQ (fun k s => s = (o.Stack.take k).foldl (Cj o fr to) (-1, 0)) rfl (fun k x s hx hI next hn => ?_) (fun s hI => ?_)
  · have hX := hn (Cj o fr to s x) (by rw [List.take_add_one, hx, List.foldl_append, ← hI]; rfl)
    obtain ⟨s1, s2⟩ := s
    have k3 : ∀ n c, (next (n, if c = true then w64 (s2 + Iz o x.eY) else s2)) → kP o x s2 (fun n3 n4 => next (n3, n4)) n c := fun n c hc => by
      unfold kP
      refine eU (fun e => Jj ?_) (fun e => ?_)
      · rw [if_pos e] at hc; exact hc
      · rw [if_neg (by rw [e]; decide)] at hc; exact hc
    have k2 : ∀ n, next (if n ≥ fr ∧ (n < to ∨ (n = to ∧ x.Name ≠ [])) then (n, w64 (s2 + Iz o x.eY)) else (n, s2)) → o7 o fr to x s2 (fun n3 n4 => next (n3, n4)) n := fun n hc => by
      unfold o7
      refine eU (fun e1 => eU (fun e2 => k3 _ _ ?_) (fun e2 => eU (fun e3 => k3 _ _ ?_) (fun e3 => k3 _ _ ?_))) (fun e1 => k3 _ _ ?_)
      · rw [if_pos ⟨of_decide_eq_true e1, .inl (of_decide_eq_true e2)⟩] at hc; exact hc
      · have e3 : n = to := by simpa using e3
        by_cases hx0 : x.Name = []
        · rw [if_neg (fun hh => hh.2.elim (fun h5 => by omega) (fun h5 => h5.2 hx0))] at hc
          rw [if_neg (by simp [hx0])]; exact hc
        · rw [if_pos ⟨of_decide_eq_true e1, .inr ⟨e3, hx0⟩⟩] at hc
          rw [if_pos (by simpa using hx0)]; exact hc
      · have e2 := of_decide_eq_false e2
        have e3 : n ≠ to := by simpa using e3
        rw [if_neg (fun hh => hh.2.elim (fun h5 => e2 h5) (fun h5 => e3 h5.1))] at hc
        rw [if_neg (by decide)]; exact hc
      · rw [if_neg (fun hh => of_decide_eq_false e1 hh.1)] at hc
        rw [if_neg (by decide)]; exact hc
    unfold qQ
    unfold Cj at hX
    refine eU (fun e => k2 _ ?_) (fun e => k2 _ ?_)
    · rw [if_neg (show ¬ x.Name = [] by simpa using e)] at hX; exact hX
    · rw [if_pos (show x.Name = [] by simpa using e)] at hX; exact hX
  · rw [List.take_length] at hI
    rw [← hI] at h
    exact h
end Go.Proofs.YtbegofbmbcghdaaGreatDoor

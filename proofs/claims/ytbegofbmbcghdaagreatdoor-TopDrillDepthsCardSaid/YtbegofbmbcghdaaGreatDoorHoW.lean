/- Chapter texts of ours, as far as the claim needs them. -/
import Derived.Test.YtbegofbmbcghdaaGreatDoorHoK
import Derived.Test.YtbegofbmbcghdaaGreatDoorStackD2
namespace Go.Proofs.YtbegofbmbcghdaaGreatDoor
open Go Go.RowKit
set_option linter.unusedVariables false
set_option linter.unusedSectionVars false
set_option linter.unusedSimpArgs false
def cnt (m : List eY) (s : List Layer) (k : Nat) : Nat := (kR m s k).length
theorem Ul (m : List eY) (s : List Layer) (k : Nat) : cnt m s (k + 1) = cnt m s k + (if jc m (s.getD k default) = 1 then 1 else 0) := by
  unfold cnt; rw [kR, List.length_append]; split <;> rfl
theorem cnt_le (m : List eY) (s : List Layer) {i : Nat} : ∀ {k : Nat}, i ≤ k → cnt m s i ≤ cnt m s k
  | 0, h => by
    have : i = 0 := by omega
    subst this; exact Nat.le_refl _
  | k + 1, h => by
    rcases Nat.lt_or_ge k i with h1 | h1
    · have : i = k + 1 := by omega
      subst this; exact Nat.le_refl _
    · have := cnt_le m s h1; rw [Ul]; omega
theorem UO (m : List eY) (s : List Layer) : ∀ (k j : Nat), j < cnt m s k → ∃ p, p < k ∧ jc m (s.getD p default) = 1 ∧ cnt m s p = j
  | 0, j, h => by simp [cnt, kR] at h
  | k + 1, j, h => by
    rcases Nat.lt_or_ge j (cnt m s k) with h1 | h1
    · obtain ⟨p, a, b, c⟩ := UO m s k j h1; exact ⟨p, by omega, b, c⟩
    · rw [Ul] at h
      split at h
      · rename_i hk; exact ⟨k, by omega, hk, by omega⟩
      · omega
theorem UB (p : eY → Bool) : ∀ l : List eY, (match l.findIdx? p with | some i => (l.getD i default).Thick | none => 0) = ((l.find? p).getD SV).Thick
  | [] => rfl
  | x :: r => by
    have ih := UB p r
    rw [List.findIdx?_cons, List.find?_cons]
    cases hp : p x
    · simp only [Bool.false_eq_true, if_false]
      rw [← ih]
      cases r.findIdx? p <;> rfl
    · rfl
theorem UY (o : Order) (n : Str) : Iz o n = (yV o.Materials n).Thick := by
  have e : (fun m : eY => iw m.Name n == 0) = (fun x => x.Name == n) := by
    funext x
    rcases vW x.Name n with ⟨h, e⟩ | ⟨h, _, e⟩ | ⟨h, _, _, e⟩
    · rw [h, e]; simp
    · have : (x.Name == n) = false := by simpa using e
      rw [h, this]; rfl
    · have : (x.Name == n) = false := by simpa using e
      rw [h, this]; rfl
  unfold Iz yV
  rw [e]; exact UB _ _
theorem UC {m : List eY} {s : List Layer} {k : Nat} {x : Layer} (hx : s[k]? = some x) : TN m (s.take (k + 1)) = TN m (s.take k) + (yV m x.eY).Thick := by
  rw [List.take_add_one, hx, Ui]; simp [Um, TN]
theorem U0 {m : List eY} (hm : Aq m) (s : List Layer) {i k : Nat} (h : i ≤ k) : TN m (s.take i) ≤ TN m (s.take k) := by
  have e := List.take_append_drop i (s.take k)
  rw [List.take_take, Nat.min_eq_left h] at e
  rw [← e, Ui]
  have := (TP hm ((s.take k).drop i)).1
  omega
theorem UZ {o : Order} (h0 : lG o.Materials o.Stack = 0) {p q : Nat} (kp : jc o.Materials (o.Stack.getD p default) = 1) (kq : jc o.Materials (o.Stack.getD q default) = 1) (hpq : p < q) (hq : q < o.Stack.length) :
    Kw o (cnt o.Materials o.Stack p : Int) (cnt o.Materials o.Stack q : Int) = TN o.Materials (o.Stack.take (q + 1)) - TN o.Materials (o.Stack.take p) := by
  obtain ⟨hm, hl, _, _, _, hb⟩ := wu h0
  generalize hfr : cnt o.Materials o.Stack p = fr
  generalize hto : cnt o.Materials o.Stack q = to
  have p1 : cnt o.Materials o.Stack (p + 1) = fr + 1 := by rw [Ul, if_pos kp, hfr]
  have q1 : cnt o.Materials o.Stack (q + 1) = to + 1 := by rw [Ul, if_pos kq, hto]
  have key : ∀ k, k ≤ o.Stack.length → (o.Stack.take k).foldl (Cj o (fr : Int) (to : Int)) (-1, 0) = ((cnt o.Materials o.Stack k : Int) - 1, TN o.Materials (o.Stack.take (min k (q + 1))) - TN o.Materials (o.Stack.take (min k p))) := by
    intro k
    induction k with
    | zero => intro _; simp [cnt, kR, TN]
    | succ k ih =>
      intro hk
      have hx : o.Stack[k]? = some (o.Stack.getD k default) := by rw [List.getD_eq_getElem?_getD, List.getElem?_eq_getElem (by omega)]; rfl
      have hs := Ul o.Materials o.Stack k
      have hc := CG o.Materials o.Stack k
      have hc : cnt o.Materials o.Stack k ≤ k := hc
      generalize hxe : o.Stack.getD k default = x at hx hs
      obtain ⟨n1, n2⟩ := Uk (hb k x hx)
      rw [List.take_add_one, hx, List.foldl_append, ih (by omega)]
      show Cj o (fr : Int) (to : Int) _ x = _
      have hn : (if x.Name = [] then ((cnt o.Materials o.Stack k : Int) - 1) else w64 ((cnt o.Materials o.Stack k : Int) - 1 + 1)) = (cnt o.Materials o.Stack (k + 1) : Int) - 1 := by
        by_cases hkd : jc o.Materials x = 1
        · rw [if_neg (n1 hkd).2, hs, if_pos hkd, gV (by omega) (by omega)]; omega
        · rw [if_pos (n2 hkd), hs, if_neg hkd]; omega
      have hC : ((cnt o.Materials o.Stack (k + 1) : Int) - 1 ≥ (fr : Int) ∧ ((cnt o.Materials o.Stack (k + 1) : Int) - 1 < (to : Int) ∨ ((cnt o.Materials o.Stack (k + 1) : Int) - 1 = (to : Int) ∧ x.Name ≠ []))) ↔ (p ≤ k ∧ k ≤ q) := by
        constructor
        · rintro ⟨a, b⟩
          constructor
          · rcases Nat.lt_or_ge k p with h | h
            · have := cnt_le o.Materials o.Stack (show k + 1 ≤ p from h); omega
            · exact h
          · rcases Nat.lt_or_ge q k with h | h
            · have := cnt_le o.Materials o.Stack (show q + 1 ≤ k from h)
              by_cases hkd : jc o.Materials x = 1
              · rw [if_pos hkd] at hs; omega
              · rcases b with b | b
                · omega
                · exact absurd (n2 hkd) b.2
            · exact h
        · rintro ⟨a, b⟩
          have := cnt_le o.Materials o.Stack (show p + 1 ≤ k + 1 by omega)
          refine ⟨by omega, ?_⟩
          rcases Nat.lt_or_ge k q with h | h
          · have := cnt_le o.Materials o.Stack (show k + 1 ≤ q from h); left; omega
          · have : k = q := by omega
            subst this
            right
            rw [hxe] at kq
            exact ⟨by omega, (n1 kq).2⟩
      unfold Cj
      simp only [hn, hC]
      have hst := UC (m := o.Materials) hx
      have b1 := TP hm (o.Stack.take k)
      have b2 := TP hm (o.Stack.take p)
      have b3 := MP hm x.eY
      have b4 : (o.Stack.take k).length ≤ 60 := by rw [List.length_take]; omega
      have b5 : (o.Stack.take p).length ≤ 60 := by rw [List.length_take]; omega
      by_cases hin : p ≤ k ∧ k ≤ q
      · rw [if_pos hin, UY]
        rw [Nat.min_eq_left (show k ≤ q + 1 by omega), Nat.min_eq_right hin.1, Nat.min_eq_left (show k + 1 ≤ q + 1 by omega), Nat.min_eq_right (show p ≤ k + 1 by omega)]
        rw [gV (by omega) (by omega), hst]
        refine Prod.ext rfl ?_
        show TN o.Materials (o.Stack.take k) - TN o.Materials (o.Stack.take p) + (yV o.Materials x.eY).Thick = TN o.Materials (o.Stack.take k) + (yV o.Materials x.eY).Thick - TN o.Materials (o.Stack.take p)
        omega
      · rw [if_neg hin]
        refine Prod.ext rfl ?_
        rcases Nat.lt_or_ge k p with h | h
        · rw [Nat.min_eq_left (show k + 1 ≤ q + 1 by omega), Nat.min_eq_left (show k + 1 ≤ p by omega), Nat.min_eq_left (show k ≤ q + 1 by omega), Nat.min_eq_left (show k ≤ p by omega)]
          show TN o.Materials (o.Stack.take k) - TN o.Materials (o.Stack.take k) = TN o.Materials (o.Stack.take (k + 1)) - TN o.Materials (o.Stack.take (k + 1))
          omega
        · rw [Nat.min_eq_right (show q + 1 ≤ k + 1 by omega), Nat.min_eq_right (show p ≤ k + 1 by omega), Nat.min_eq_right (show q + 1 ≤ k by omega), Nat.min_eq_right (show p ≤ k by omega)]
  have := key o.Stack.length (Nat.le_refl _)
  rw [List.take_length, Nat.min_eq_right (show q + 1 ≤ o.Stack.length by omega), Nat.min_eq_right (show p ≤ o.Stack.length by omega)] at this
  unfold Kw
  rw [this]
def UU (s : List Layer) : Nat → List Str
  | 0 => []
  | k + 1 => UU s k ++ (if (s.getD k default).Name = [] then [] else [(s.getD k default).Name])
theorem UJ {m : List eY} {s : List Layer} (hb : ∀ i x, s[i]? = some x → qJ m s i x = 0) : ∀ k, k ≤ s.length → (UU s k).length = cnt m s k
  | 0, _ => rfl
  | k + 1, h => by
    have hx : s[k]? = some (s.getD k default) := by rw [List.getD_eq_getElem?_getD, List.getElem?_eq_getElem (by omega)]; rfl
    obtain ⟨n1, n2⟩ := Uk (hb k _ hx)
    rw [UU, List.length_append, UJ hb k (by omega), Ul]
    by_cases hk : jc m (s.getD k default) = 1
    · rw [if_pos hk, if_neg (n1 hk).2]; rfl
    · rw [if_neg hk, if_pos (n2 hk)]; rfl
theorem UW {m : List eY} {s : List Layer} (hb : ∀ i x, s[i]? = some x → qJ m s i x = 0) {p : Nat} (kp : jc m (s.getD p default) = 1) : ∀ k, p < k → k ≤ s.length → (UU s k)[cnt m s p]? = some (s.getD p default).Name
  | 0, h, _ => by omega
  | k + 1, h, hk => by
    rw [UU]
    rcases Nat.lt_or_ge p k with h1 | h1
    · have ih := UW hb kp k h1 (by omega)
      rw [List.getElem?_append_left (TL ih)]; exact ih
    · have : p = k := by omega
      subst this
      have hx : s[p]? = some (s.getD p default) := by rw [List.getD_eq_getElem?_getD, List.getElem?_eq_getElem (by omega)]; rfl
      obtain ⟨n1, _⟩ := Uk (hb p _ hx)
      have hl := UJ hb p (by omega)
      rw [if_neg (n1 kp).2, List.getElem?_append_right (by omega), hl, Nat.sub_self]; rfl
theorem UX {m : List eY} {s : List Layer} (hmf : Fits.fits m) (hf : Fits.fits s) (h0 : lG m s = 0) {p : Nat} (hp : p < s.length) (kp : jc m (s.getD p default) = 1) {Q : Int → Int → Prop} (h : Q (TN m (s.take p)) 0) : TV m s (s.getD p default).Name Q := by
  obtain ⟨hm, hl, _, _, _, hb⟩ := wu h0
  have hx : s[p]? = some (s.getD p default) := by rw [List.getD_eq_getElem?_getD, List.getElem?_eq_getElem hp]; rfl
  generalize s.getD p default = x at hx kp
  have hn := ((Uk (hb p x hx)).1 kp).2
  have hpl : Ud s x.Name = (p : Int) := by
    unfold Ud placeOf
    have : s.findIdx? (fun l => !(x.Name == []) && l.Name == x.Name) = some p := by
      rw [List.findIdx?_eq_some_iff_getElem]
      refine ⟨hp, ?_, fun j hj => ?_⟩
      · rw [(List.getElem?_eq_some_iff.1 hx).2]; simp [hn]
      · have hjl : j < s.length := Nat.lt_trans hj hp
        intro hh
        simp only [Bool.and_eq_true, beq_iff_eq] at hh
        have := UN hb (List.getElem?_eq_getElem hjl) hx hh.2 (by rw [hh.2]; exact hn)
        omega
    rw [this]
  refine UG hmf hf ?_
  unfold UI
  rw [if_pos h0, hpl, if_neg (by omega), show seg s 0 (p : Int) = s.take p by simp [seg]]
  exact h
theorem Uy (o : Order) (bits : List Bit) (near : Int) (hf : Fits.fits o) (hbf : Fits.fits bits) : Uh o bits near (· = true) := by
  have hff := hf
  obtain ⟨_, _, f3, f4, _⟩ := hff
  unfold Uh
  refine Nq hf hbf (fun s f hn => eU (fun _ => eU (fun _ => Gg rfl) (fun e => by simp at e)) (fun e => absurd (by simpa using e) hn)) (fun l ht hb hst hl hd hin => eU (fun e => by simp at e) (fun _ => ?_))
  obtain ⟨hm, hsl, _, _, _, hbad⟩ := wu hst
  refine Uu f3 f4 ?_
  rw [if_pos hst]
  refine eU (fun e => by simp at e) (fun _ => ?_)
  refine Ep (fun k => (UU o.Stack k, (k : Int))) o.Stack.length rfl (fun X k hk hX => ?_) (fun X => ?_)
  · have hx : o.Stack[k]? = some (o.Stack.getD k default) := by rw [List.getD_eq_getElem?_getD, List.getElem?_eq_getElem hk]; rfl
    have hnl := UJ hbad k (by omega)
    have hcl : cnt o.Materials o.Stack k ≤ k := CG o.Materials o.Stack k
    have hw : w64 ((k : Int) + 1) = ((k + 1 : Nat) : Int) := by rw [gV (by omega) (by omega)]; omega
    have hX : X (UU o.Stack k ++ (if (o.Stack.getD k default).Name = [] then [] else [(o.Stack.getD k default).Name]), ((k + 1 : Nat) : Int)) := hX
    generalize o.Stack.getD k default = x at hx hX
    unfold TT
    dsimp only
    refine eU (fun _ => gW hx (eU (fun e => ⟨lX (by simp only [List.length_append, List.length_singleton]; omega) (by omega), ?_⟩) (fun e => ?_))) (fun e => absurd (of_decide_eq_false e) (by omega))
    · rw [if_neg (show ¬ x.Name = [] by simpa using e)] at hX
      rw [hw]; exact hX
    · rw [if_pos (show x.Name = [] by simpa using e), List.append_nil] at hX
      rw [hw]; exact hX
  · unfold TT
    dsimp only
    refine eU (fun e => absurd (of_decide_eq_true e) (by omega)) (fun _ => ?_)
    have hnl := UJ hbad o.Stack.length (Nat.le_refl _)
    refine Ep (fun i => (i : Int)) l.length rfl (fun Y k hk hY => ?_) (fun Y => ?_)
    · have hx : l[k]? = some l[k] := List.getElem?_eq_getElem hk
      generalize l[k] = d at hx
      have ok := hd d (List.mem_of_getElem? hx)
      obtain ⟨pr1, pr2, pr3⟩ := ok.press
      have hcop : (sW o.Materials o.Stack).length = cnt o.Materials o.Stack o.Stack.length := rfl
      have hcl : cnt o.Materials o.Stack o.Stack.length ≤ o.Stack.length := CG o.Materials o.Stack _
      obtain ⟨fr, hfr⟩ : ∃ fr : Nat, d.gU.From = (fr : Int) + 1 := ⟨(d.gU.From - 1).toNat, by omega⟩
      obtain ⟨to, hto⟩ : ∃ to : Nat, d.gU.To = (to : Int) + 1 := ⟨(d.gU.To - 1).toNat, by omega⟩
      obtain ⟨p, hp, kp, cp⟩ := UO o.Materials o.Stack o.Stack.length fr (by omega)
      obtain ⟨q, hq, kq, cq⟩ := UO o.Materials o.Stack o.Stack.length to (by omega)
      have hpq : p < q := by
        rcases Nat.lt_or_ge p q with h | h
        · exact h
        · have := cnt_le o.Materials o.Stack h; omega
      have gp := UW hbad kp o.Stack.length hp (Nat.le_refl _)
      have gq := UW hbad kq o.Stack.length hq (Nat.le_refl _)
      rw [cp] at gp
      rw [cq] at gq
      have hhole : ∀ b : zT, b ∈ o.Bores → uw b = ⟨d.gU.From, d.gU.To⟩ → Kw o b.From b.To = TN o.Materials (o.Stack.take (q + 1)) - TN o.Materials (o.Stack.take p) := by
        intro b hbm hs
        obtain ⟨⟨a1, a2⟩, ⟨a3, a4⟩, _⟩ := hin b hbm
        have e1 : w64 (b.From + 1) = d.gU.From := congrArg Through.From hs
        have e2 : w64 (b.To + 1) = d.gU.To := congrArg Through.To hs
        rw [gV (by omega) (by omega)] at e1 e2
        have e3 : b.From = (cnt o.Materials o.Stack p : Int) := by omega
        have e4 : b.To = (cnt o.Materials o.Stack q : Int) := by omega
        rw [e3, e4]
        exact UZ hst kp kq hpq hq
      have hqx : o.Stack[q]? = some (o.Stack.getD q default) := by rw [List.getD_eq_getElem?_getD, List.getElem?_eq_getElem hq]; rfl
      have t1 := UC (m := o.Materials) hqx
      have t2 := U0 hm o.Stack (show q + 1 ≤ o.Stack.length by omega)
      rw [List.take_length] at t2
      have t3 : 1 ≤ (yV o.Materials (o.Stack.getD q default).eY).Thick := by
        have hk1 : (yV o.Materials (o.Stack.getD q default).eY).Kind = 1 := kq
        unfold yV at hk1 ⊢
        cases hfd : o.Materials.find? (fun x => x.Name == (o.Stack.getD q default).eY) with
        | none => rw [hfd] at hk1; exact absurd hk1 (by decide)
        | some y =>
          obtain ⟨_, _, h2, _⟩ := hm.each y (List.mem_of_find?_eq_some hfd)
          unfold within at h2
          simp at h2
          show 1 ≤ y.Thick
          omega
      have t4 := TP hm o.Stack
      have t5 := TP hm (o.Stack.take p)
      have t6 := TP hm (o.Stack.take q)
      have t7 : (o.Stack.take p).length ≤ 60 := by rw [List.length_take]; omega
      have t8 : (o.Stack.take q).length ≤ 60 := by rw [List.length_take]; omega
      have hjt := NV hx
      have hjl := Px l (k + 1)
      unfold TQ
      dsimp only
      refine eU (fun _ => gW hx (eU (fun e => absurd (of_decide_eq_true e) (by omega)) (fun _ => ?_))) (fun e => absurd (of_decide_eq_false e) (by omega))
      unfold Ub
      refine eU (fun e => absurd (of_decide_eq_true e) (by omega)) (fun _ => ?_)
      rw [show w64 (d.gU.From - 1) = (fr : Int) by rw [gV (by omega) (by omega)]; omega]
      refine gW gp (UX f3 f4 hst hp kp ?_)
      rw [show w64 (d.gU.To - 1) = (to : Int) by rw [gV (by omega) (by omega)]; omega]
      refine gW gq (UX f3 f4 hst hq kq (eU (fun e => by simp at e) (fun _ => ?_)))
      unfold Ua
      refine eU (fun e => by simp at e) (fun _ => ?_)
      refine Ep (fun i => (i : Int)) d.Jobs.length rfl (fun Z i hi hZ => ?_) (fun Z => ?_)
      · have hj : d.Jobs[i]? = some d.Jobs[i] := List.getElem?_eq_getElem hi
        generalize d.Jobs[i] = j at hj
        have hjo := ok.jobs
        have hht := NK hj
        have hhl := Qd d.Jobs (i + 1)
        unfold TR
        dsimp only
        refine eU (fun _ => ?_) (fun e => absurd (of_decide_eq_false e) (by omega))
        refine Ep (fun i => (i : Int)) j.Holes.length rfl (fun U n hn hU => ?_) (fun U => ?_)
        · have hh : j.Holes[n]? = some j.Holes[n] := List.getElem?_eq_getElem hn
          generalize j.Holes[n] = h at hh
          obtain ⟨b, hbm, hs, hdp⟩ := ok.holes j (List.mem_of_getElem? hj) h (List.mem_of_getElem? hh)
          rw [hhole b hbm hs] at hdp
          have hgo : TY (· = true) (n : Int) (fun n8 => U n8) false := by
            refine eU (fun e => by cases e) (fun _ => ?_)
            rw [show w64 ((n : Int) + 1) = ((n + 1 : Nat) : Int) by rw [gV (by omega) (by omega)]; omega]
            exact hU
          unfold TS
          dsimp only
          refine gW hj (eU (fun _ => gW hh (eU (fun e => ?_) (fun _ => ?_))) (fun e => absurd (of_decide_eq_false e) (by omega)))
          · have e := of_decide_eq_true e
            rw [gV (by omega) (by omega)] at e
            omega
          · rw [show decide (h.Depth > w64 (TN o.Materials o.Stack - TN o.Materials (o.Stack.take p))) = false from decide_eq_false (by rw [gV (by omega) (by omega)]; omega)]
            exact hgo
        · unfold TS
          dsimp only
          refine gW hj (eU (fun e => absurd (of_decide_eq_true e) (by omega)) (fun _ => ?_))
          rw [show w64 ((i : Int) + 1) = ((i + 1 : Nat) : Int) by rw [gV (by omega) (by omega)]; omega]
          exact hZ
      · unfold TR
        dsimp only
        refine eU (fun e => absurd (of_decide_eq_true e) (by omega)) (fun _ => ?_)
        rw [show w64 ((k : Int) + 1) = ((k + 1 : Nat) : Int) by rw [gV (by omega) (by omega)]; omega]
        exact hY
    · unfold TQ
      dsimp only
      exact eU (fun e => absurd (of_decide_eq_true e) (by omega)) (fun _ => Gg rfl)
end Go.Proofs.YtbegofbmbcghdaaGreatDoor

/- Chapter 4: the fewest spans: the law, plain. -/
import Derived.Test.YtjkkefhfbcgahaaStackK
namespace Go.Proofs.Ytjkkefhfbcgahaa
open Go Go.RowKit
set_option linter.unusedVariables false

theorem S_equal_int {xs ys : List Int} {Q : Bool → Prop} (h : Q (decide (xs = ys))) : M_equal_int xs ys Q := by
  unfold M_equal_int
  refine equal_loop (fun k x next hq => ?_) h
  unfold M_equal_int_L1
  obtain ⟨h0, y, hy, hc⟩ := hq
  refine ⟨h0, y, hy, ?_⟩
  have : (x != y) = !(decide (x = y)) := by rw [Bool.eq_iff_iff]; simp
  dsimp only
  rw [this]; exact hc
theorem S_concat_thr {a b : List Through} (h : a.length + b.length ≤ 100000) {Q : List Through → Prop} (hq : Q (a ++ b)) : M_concat_thr [a, b] Q := by
  unfold M_concat_thr
  have r : ∀ n : Nat, n ≤ 100000 → room n 16 := fun n hn => room_of (by omega) (by omega)
  refine forIn0 (fun k (n : Int) => n = (((([a, b].take k).map List.length).sum : Nat) : Int)) ?_ (fun k x n hx hI next hn => ?_) (fun n hI => ?_)
  · simp
  · unfold M_concat_thr_L1
    have hX := hn _ rfl
    have hk : k < 2 := lt_of_get hx
    have e : (((([a, b].take (k + 1)).map List.length).sum : Nat) : Int) = n + (x.length : Int) := by
      rw [List.take_add_one, hx, hI]; simp
    have hb : ((([a, b].take (k + 1)).map List.length).sum : Nat) ≤ a.length + b.length := by
      rcases k with _ | _ | k <;> simp at hk ⊢
    rw [e] at hX
    have hn0 : 0 ≤ n := by rw [hI]; exact Int.natCast_nonneg _
    rw [w64_id (by omega) (by omega)]
    exact cnd_of (fun e => by simp at e; omega) (fun _ => hX)
  · subst hI
    refine ⟨⟨Int.natCast_nonneg _, r _ (by simp; omega)⟩, ?_⟩
    refine forIn0 (fun k acc => acc = ([a, b].take k).flatten) (by simp) (fun k x acc hx hI next hn => ?_) (fun acc hI => ?_)
    · unfold M_concat_thr_L2
      have hX := hn _ rfl
      have hk : k < 2 := lt_of_get hx
      have e : ([a, b].take (k + 1)).flatten = acc ++ x := by rw [List.take_add_one, hx, hI]; simp
      rw [e] at hX
      refine ⟨r _ ?_, hX⟩
      rw [← e]
      rcases k with _ | _ | k
      · simp; omega
      · simp; omega
      · omega
    · subst hI; simpa using hq
theorem S_stack_Fewest {m : List Material} {s : List Layer} {l : List Through} (hmf : Fits.fits m) (hf : Fits.fits s) {Q : List Through → Int → Prop} (h0 : spansFault m s l ≠ 0 → Q [] (spansFault m s l))
    (h : spansFault m s l = 0 → ∀ r, spansFault m s r = 0 → reachOf (copOf m s).length r = reachOf (copOf m s).length l → r.length ≤ l.length → Q r 0) : M_stack_Fewest m s l Q := by
  unfold M_stack_Fewest
  refine S_stack_CheckSpans hmf hf (cnd_of (fun e => h0 (by simpa using e)) (fun e => ?_))
  have e0 : spansFault m s l = 0 := by simpa using e
  obtain ⟨h1, hll, hspan⟩ := spans_ok e0
  obtain ⟨hm, hsl, _, _, _, hb⟩ := stack_ok h1
  have hcp := copOf_len m s
  refine S_stack_coppers hm (by omega) (S_stack_reach (by omega) hspan (fun _ => S_clone_thr (by omega) ?_))
  rw [w64_id (by omega) (by omega)]
  refine lp_intro (fun st => spansFault m s st.1 = 0 ∧ reachOf (copOf m s).length st.1 = reachOf (copOf m s).length l ∧ st.1.length ≤ l.length ∧ -1 ≤ st.2 ∧ st.2 < (st.1.length : Int)) (fun st => (st.2 + 1).toNat) ⟨e0, rfl, Nat.le_refl _, by dsimp only; omega, by dsimp only; omega⟩ (fun X st hI hX => ?_)
  obtain ⟨o, n⟩ := st
  obtain ⟨i1, i2, i3, i4, i5⟩ := hI
  dsimp only at i1 i2 i3 i4 i5 hX ⊢
  unfold M_stack_Fewest_L1
  refine cnd_of (fun e => ?_) (fun e => h e0 o i1 i2 i3)
  have hn : 0 ≤ n := by simpa using e
  rw [w64_id (n := n + 1) (by omega) (by omega)]
  refine ⟨⟨hn, by omega⟩, ⟨by omega, by omega, by omega⟩, ?_⟩
  have hs1 : (o.take n.toNat).length = n.toNat := by rw [List.length_take]; omega
  have hs2 : (seg o (n + 1) (o.length : Int)).length = o.length - (n.toNat + 1) := by
    unfold seg; rw [List.length_drop, Int.toNat_natCast, List.take_length]; omega
  refine S_concat_thr (by omega) ?_
  have hsub : ∀ x ∈ o.take n.toNat ++ seg o (n + 1) (o.length : Int), x ∈ o := fun x hx => by
    rcases List.mem_append.1 hx with hx | hx
    · exact List.mem_of_mem_take hx
    · unfold seg at hx; exact List.mem_of_mem_take (List.mem_of_mem_drop hx)
  have hle : (o.take n.toNat ++ seg o (n + 1) (o.length : Int)).length = o.length - 1 := by rw [List.length_append]; omega
  generalize hL : o.take n.toNat ++ seg o (n + 1) (o.length : Int) = L at *
  obtain ⟨_, _, hospan⟩ := spans_ok i1
  refine S_stack_reach (by omega) (fun x hx => hospan x (hsub x hx)) (fun _ => S_equal_int ?_)
  have hw : w64 (n - 1) = n - 1 := w64_id (by omega) (by omega)
  have keep : X (o, n - 1) := hX _ ⟨i1, i2, i3, by dsimp only; omega, by dsimp only; omega⟩ (by dsimp only; omega)
  refine cnd_of (fun e1 => S_stack_CheckSpans hmf hf ?_) (fun _ => ?_)
  · unfold M_stack_Fewest_k2
    rw [hw]
    refine cnd_of (fun e2 => ?_) (fun _ => keep)
    exact hX _ ⟨by simpa using e2, by simpa using e1, by dsimp only; omega, by dsimp only; omega, by dsimp only; omega⟩ (by dsimp only; omega)
  · unfold M_stack_Fewest_k2
    rw [hw]
    exact cnd_of (fun e => by cases e) (fun _ => keep)
theorem law_FewestSame_true (m : List Material) (s : List Layer) (l : List Through) (name : Str) (hmf : Fits.fits m) (hf : Fits.fits s) : M_law_FewestSame m s l name (· = true) := by
  unfold M_law_FewestSame
  have aw : M_awake (fun y => y = true) := S_awake rfl
  refine S_stack_Fewest hmf hf (fun hne => ?_) (fun e0 r hr hrr hrl => ?_)
  · refine cnd_of (fun _ => cnd_of (fun _ => aw) (fun e => by simp at e)) (fun e => absurd (by simpa using e) hne)
  · refine cnd_of (fun e => by simp at e) (fun _ => ?_)
    have hsame : reachedOf m s r name = reachedOf m s l name := by unfold reachedOf; rw [hr, e0, hrr]
    refine S_stack_Reached hmf hf (S_stack_Reached hmf hf ?_)
    rw [hsame]
    refine cnd_of (fun _ => S_equal_str (cnd_of (fun _ => cnd_of (fun _ => S_stack_CheckSpans hmf hf (cnd_of (fun _ => aw) (fun e => ?_))) (fun e => ?_)) (fun e => ?_))) (fun e => ?_)
    · rw [hr] at e; simp at e
    · simp at e; omega
    · simp at e
    · simp at e
end Go.Proofs.Ytjkkefhfbcgahaa

/- Chapter texts of ours, as far as the claim needs them. -/
import Derived.Test.YtihjaehkdgdenaaGreatDoorRtA
import Derived.Test.YtihjaehkdgdenaaGreatDoorHeap
namespace Go.Proofs.YtihjaehkdgdenaaGreatDoor
open Go Go.RowKit
set_option linter.unusedVariables false
set_option linter.unusedSectionVars false
set_option linter.unusedSimpArgs false
abbrev rkI (l : List RouteItem) : Nat → Int := rkAt RouteItem.key l
def isHeap (l : List RouteItem) : Prop := HpF (rkI l) l.length 0
section
variable {l : List RouteItem} {i j : Nat} {x y : RouteItem}
theorem S_queue_Less {Q : Bool → Prop} (hi : l[i]? = some x) (hj : l[j]? = some y) (h : Q (decide (x.key < y.key))) : M_queue_Less l (i : Int) (j : Int) Q := idx_nat hi (idx_nat hj h)
theorem S_queue_Swap {Q : List RouteItem → Prop} (hi : l[i]? = some x) (hj : l[j]? = some y) (h : Q (swapL l i j x y)) : M_queue_Swap l (i : Int) (j : Int) Q := by
  have h1 := lt_of_get hi
  have h2 := lt_of_get hj
  refine idx_nat hj (idx_nat hi ?_)
  simp only [Int.toNat_natCast]
  have h3 : (l.set i y)[j]? = some ((l.set i y)[j]'(by rw [List.length_set]; exact h2)) := List.getElem?_eq_getElem (by rw [List.length_set]; exact h2)
  exact idx_nat h3 h
theorem up_i {j : Nat} (hj : j ≤ 4611686018427387904) : w64 ((w64 ((j : Int) - 1)).tdiv 2) = (((j - 1) / 2 : Nat) : Int) := by
  rcases Nat.eq_zero_or_pos j with h0 | h0
  · subst h0; decide
  · have e1 : w64 ((j : Int) - 1) = (j : Int) - 1 := w64_id (by omega) (by omega)
    rw [e1, Int.tdiv_eq_ediv_of_nonneg (by omega), w64_id] <;> omega
theorem S_heap_up {Q : List RouteItem → Prop} {l : List RouteItem} {j : Nat} (hj : j < l.length) (hl : l.length ≤ 4611686018427387904) (hU : UpI (rkI l) l.length j) (h : ∀ l', l'.Perm l → isHeap l' → Q l') : M_heap_up l (j : Int) Q := by
  unfold M_heap_up
  refine lp_measN (fun m (s : List RouteItem × Int) => s.2 = (m : Int) ∧ s.1.Perm l ∧ m < l.length ∧ UpI (rkI s.1) l.length m) (n := j) ⟨rfl, .refl _, hj, hU⟩ ?_
  rintro m ⟨l2, n2⟩ X ⟨hn, hp, hm, hu⟩ hX
  simp only at hn hp hu
  subst hn
  have hlen : l2.length = l.length := hp.length_eq
  show M_heap_up_L1 Q (fun l2 n2 => X (l2, n2)) l2 m
  unfold M_heap_up_L1
  rw [up_i (by omega)]
  have hx : l2[m]? = some l2[m] := List.getElem?_eq_getElem (by omega)
  have hy : l2[(m - 1) / 2]? = some l2[(m - 1) / 2] := List.getElem?_eq_getElem (by omega)
  have stop : (0 < m → rkI l2 ((m - 1) / 2) ≤ rkI l2 m) → Q l2 := fun hd => h l2 hp (by unfold isHeap; rw [hlen]; exact hu.stop hd)
  refine cnd_of (fun e => ?_) (fun e => ?_)
  · unfold M_heap_up_k2
    simp only [cnd_true]
    simp at e
    exact stop (fun h0 => by omega)
  · simp at e
    have h0 : 0 < m := by omega
    refine S_queue_Less hx hy ?_
    unfold M_heap_up_k2
    rw [up_i (by omega)]
    refine cnd_of (fun e2 => ?_) (fun e2 => ?_)
    · simp at e2
      exact stop (fun _ => by rw [rkI, rkAt_eq hx, rkAt_eq hy]; exact e2)
    · simp at e2
      refine S_queue_Swap hy hx ?_
      refine hX ((m - 1) / 2) _ (by omega) ⟨rfl, (swapL_perm hy hx).trans hp, by omega, ?_⟩
      exact hu.step h0 (by omega) (by rw [rkI, rkAt_eq hx, rkAt_eq hy]; exact e2) (fun k => swapL_rk hy hx k)
theorem down_j {i : Nat} (hi : i ≤ 2305843009213693952) : w64 ((w64 (2 * (i : Int))) + 1) = ((2 * i + 1 : Nat) : Int) ∧ w64 ((w64 ((w64 (2 * (i : Int))) + 1)) + 1) = ((2 * i + 2 : Nat) : Int) := by
  have e1 : w64 (2 * (i : Int)) = 2 * (i : Int) := w64_id (by omega) (by omega)
  have e2 : w64 (2 * (i : Int) + 1) = 2 * (i : Int) + 1 := w64_id (by omega) (by omega)
  have e3 : w64 (2 * (i : Int) + 1 + 1) = 2 * (i : Int) + 1 + 1 := w64_id (by omega) (by omega)
  rw [e1, e2, e3]; omega
theorem S_heap_down {Q : Bool → List RouteItem → Prop} {l : List RouteItem} {i n b : Nat} (hn : n ≤ l.length) (hi : i ≤ n) (hl : l.length ≤ 2305843009213693952) (hb : b ≤ i) (hD : DnI (rkI l) n b i) (h : ∀ e l', l'.Perm l → (∀ k, n ≤ k → l'[k]? = l[k]?) → HpF (rkI l') n b → Q e l') : M_heap_down l (i : Int) (n : Int) Q := by
  unfold M_heap_down
  refine lp_measN (fun m (s : List RouteItem × Int) => ∃ p : Nat, s.2 = (p : Int) ∧ p + m = n ∧ s.1.Perm l ∧ (∀ k, n ≤ k → s.1[k]? = l[k]?) ∧ b ≤ p ∧ DnI (rkI s.1) n b p) (n := n - i) ⟨i, rfl, by omega, .refl _, fun _ _ => rfl, hb, hD⟩ ?_
  rintro m ⟨l2, n2⟩ X ⟨p, hp2, hpm, hp, hk, hbp, hd⟩ hX
  simp only at hp2 hp hk hd
  subst hp2
  have hlen : l2.length = l.length := hp.length_eq
  show M_heap_down_L1 i n Q (fun l2 n2 => X (l2, n2)) l2 p
  obtain ⟨ej1, ej2⟩ := down_j (i := p) (by omega)
  unfold M_heap_down_L1 M_heap_down_k3
  rw [ej2, ej1]
  have stop : ∀ c, (∀ k, 0 < k → k < n → (k - 1) / 2 = p → rkI l2 p ≤ rkI l2 k) → Q c l2 := fun c hs => h c l2 hp hk (hd.stop hs)
  refine cnd_of (fun e => ?_) (fun e => ?_)
  · simp only [cnd_true]
    simp at e
    unfold M_heap_down_k1
    exact stop _ (fun k h1 h2 h3 => by omega)
  · simp at e
    have hneg : decide (((2 * p + 1 : Nat) : Int) < 0) = false := by simp; omega
    rw [hneg]; simp only [cnd_false]
    have h1 : 2 * p + 1 < n := by omega
    have hx : l2[p]? = some l2[p] := List.getElem?_eq_getElem (by omega)
    have hy : l2[2 * p + 1]? = some l2[2 * p + 1] := List.getElem?_eq_getElem (by omega)
    -- behind the choice of a child
    have go : ∀ (j : Nat) (z : RouteItem), l2[j]? = some z → 0 < j → j < n → (j - 1) / 2 = p → (∀ k, 0 < k → k < n → (k - 1) / 2 = p → rkI l2 j ≤ rkI l2 k) → M_heap_down_k4 i Q l2 p (fun l3 n3 => X (l3, n3)) (j : Int) := by
      intro j z hz hj0 hjn hjp hmin
      unfold M_heap_down_k4
      refine S_queue_Less hz hx ?_
      refine cnd_of (fun e2 => ?_) (fun e2 => ?_)
      · simp at e2
        unfold M_heap_down_k1
        refine stop _ (fun k k1 k2 k3 => ?_)
        have := hmin k k1 k2 k3
        rw [rkI, rkAt_eq hz] at this
        rw [rkI, rkAt_eq hx]; exact Int.le_trans e2 this
      · simp at e2
        refine S_queue_Swap hx hz ?_
        refine hX (n - j) _ (by omega) ⟨j, rfl, by omega, (swapL_perm hx hz).trans hp, fun k hkn => ?_, by omega, ?_⟩
        · rw [← hk k hkn]; unfold swapL; rw [List.getElem?_set_ne (by omega), List.getElem?_set_ne (by omega)]
        · exact hd.step hbp hjn ⟨hj0, hjp⟩ hmin (by rw [rkI, rkAt_eq hz, rkAt_eq hx]; exact e2) (fun k => swapL_rk hx hz k)
    refine cnd_of (fun e2 => ?_) (fun e2 => ?_)
    · simp at e2
      have h2 : 2 * p + 2 < n := by omega
      have hz : l2[2 * p + 2]? = some l2[2 * p + 2] := List.getElem?_eq_getElem (by omega)
      refine S_queue_Less hz hy ?_
      unfold M_heap_down_k5
      rw [ej2, ej1]
      refine cnd_of (fun e3 => ?_) (fun e3 => ?_)
      · simp at e3
        refine go (2 * p + 2) _ hz (by omega) h2 (by omega) (fun k k1 k2 k3 => ?_)
        rcases (show k = 2 * p + 1 ∨ k = 2 * p + 2 by omega) with rfl | rfl
        · rw [rkI, rkAt_eq hz, rkAt_eq hy]; omega
        · exact Int.le_refl _
      · simp at e3
        refine go (2 * p + 1) _ hy (by omega) h1 (by omega) (fun k k1 k2 k3 => ?_)
        rcases (show k = 2 * p + 1 ∨ k = 2 * p + 2 by omega) with rfl | rfl
        · exact Int.le_refl _
        · rw [rkI, rkAt_eq hz, rkAt_eq hy]; omega
    · simp at e2
      unfold M_heap_down_k5
      simp only [cnd_false]
      rw [ej1]
      refine go (2 * p + 1) _ hy (by omega) h1 (by omega) (fun k k1 k2 k3 => ?_)
      obtain rfl : k = 2 * p + 1 := by omega
      exact Int.le_refl _
theorem S_heap_Init {Q : List RouteItem → Prop} {l : List RouteItem} (hl : l.length ≤ 2305843009213693952) (h : ∀ l', l'.Perm l → isHeap l' → Q l') : M_heap_Init l Q := by
  unfold M_heap_Init M_queue_Len
  dsimp only
  have e1 : w64 ((w64 ((l.length : Int).tdiv 2)) - 1) = ((l.length / 2 : Nat) : Int) - 1 := by
    rw [Int.tdiv_eq_ediv_of_nonneg (by omega), w64_id (n := (l.length : Int) / 2) (by omega) (by omega), w64_id] <;> omega
  rw [e1]
  refine lp_measN (fun m (s : List RouteItem × Int) => s.2 = (m : Int) - 1 ∧ s.1.Perm l ∧ m ≤ l.length / 2 ∧ HpF (rkI s.1) l.length m) (n := l.length / 2) ⟨rfl, .refl _, Nat.le_refl _, fun k h1 h2 h3 => by omega⟩ ?_
  rintro m ⟨l2, n2⟩ X ⟨hn, hp, hm, hh⟩ hX
  simp only at hn hp hh
  subst hn
  have hlen : l2.length = l.length := hp.length_eq
  show M_heap_Init_L1 Q (l.length : Int) (fun l2 n2 => X (l2, n2)) l2 ((m : Int) - 1)
  unfold M_heap_Init_L1
  refine cnd_of (fun e => ?_) (fun e => ?_)
  · simp at e
    obtain ⟨k, rfl⟩ : ∃ k, m = k + 1 := ⟨m - 1, by omega⟩
    rw [show (((k + 1 : Nat) : Int) - 1) = (k : Int) by omega]
    refine S_heap_down (b := k) (by omega) (by omega) (by omega) (Nat.le_refl _) (DnI.first hh) (fun c l' hp' hk' hh' => ?_)
    have e2 : w64 ((k : Int) - 1) = (k : Int) - 1 := w64_id (by omega) (by omega)
    rw [e2]
    exact hX k _ (by omega) ⟨rfl, hp'.trans hp, by omega, hh'⟩
  · simp at e
    obtain rfl : m = 0 := by omega
    exact h l2 hp (by unfold isHeap; rw [hlen]; exact hh)
theorem rkI_append {l : List RouteItem} {x : RouteItem} {k : Nat} (hk : k < l.length) : rkI (l ++ [x]) k = rkI l k := by
  unfold rkI rkAt; rw [List.getElem?_append_left hk]
theorem rkI_take {l : List RouteItem} {k n : Nat} (hk : k < n) : rkI (l.take n) k = rkI l k := by
  unfold rkI rkAt; rw [List.getElem?_take, if_pos hk]
theorem S_heap_Push {Q : List RouteItem → Prop} {l : List RouteItem} {x : RouteItem} (hr : (l.length + 1) * 16 ≤ 140737488355328) (hh : isHeap l) (h : ∀ l', l'.Perm (x :: l) → isHeap l' → Q l') : M_heap_Push l x Q := by
  unfold M_heap_Push M_queue_Push M_queue_Len
  refine ⟨room_of (by simpa using hr) (by decide), ?_⟩
  dsimp only
  have e : w64 (((l ++ [x]).length : Int) - 1) = (l.length : Int) := by rw [List.length_append]; simp; exact w64_id (by omega) (by omega)
  rw [e]
  refine S_heap_up (by simp) (by simp; omega) ?_ (fun l' hp hh' => h l' (hp.trans (List.perm_append_singleton x l)) hh')
  rw [List.length_append]
  exact UpI.last (hh.congr (Nat.le_refl _) (fun k hk => rkI_append hk))
theorem S_heap_Pop {Q : RouteItem → List RouteItem → Prop} {l : List RouteItem} (hl : l.length * 16 ≤ 140737488355328) (h0 : 0 < l.length) (hh : isHeap l) (h : ∀ x l', l.Perm (x :: l') → (∀ y ∈ l', x.key ≤ y.key) → isHeap l' → Q x l') : M_heap_Pop l Q := by
  unfold M_heap_Pop M_queue_Len
  dsimp only
  have e1 : w64 ((l.length : Int) - 1) = ((l.length - 1 : Nat) : Int) := by rw [w64_id] <;> omega
  rw [e1]
  have hx : l[0]? = some l[0] := List.getElem?_eq_getElem h0
  have hy : l[l.length - 1]? = some l[l.length - 1] := List.getElem?_eq_getElem (by omega)
  have hs : ∀ k, rkI (swapL l 0 (l.length - 1) l[0] l[l.length - 1]) k = _ := fun k => swapL_rk (r := RouteItem.key) hx hy k
  have hsl : (swapL l 0 (l.length - 1) l[0] l[l.length - 1]).length = l.length := swapL_len
  have hsp := swapL_perm hx hy
  have hlast : (swapL l 0 (l.length - 1) l[0] l[l.length - 1])[l.length - 1]? = some l[0] := by
    unfold swapL; rw [List.getElem?_set_self (by rw [List.length_set]; omega)]
  refine S_queue_Swap (i := 0) hx hy ?_
  refine S_heap_down (i := 0) (b := 0) (by omega) (by omega) (by omega) (Nat.le_refl _) ?_ (fun c l' hp' hk' hh' => ?_)
  · refine DnI.pop hh (by omega) (fun k hk hkn => ?_)
    rw [hs, if_neg (by omega), if_neg (by omega)]
  · unfold M_queue_Pop
    have hl' : l'.length = l.length := hp'.length_eq.trans hsl
    have e2 : w64 ((l'.length : Int) - 1) = ((l.length - 1 : Nat) : Int) := by rw [hl']; exact e1
    rw [e2]
    have hz : l'[l.length - 1]? = some l[0] := (hk' _ (Nat.le_refl _)).trans hlast
    refine idx_nat hz ⟨⟨by omega, by omega⟩, ?_⟩
    rw [Int.toNat_natCast]
    have hsplit : l' = l'.take (l.length - 1) ++ [l[0]] := by
      have h3 := (List.take_append_drop (l.length - 1) l').symm
      have h4 : l'.drop (l.length - 1) = [l[0]] := by
        apply List.ext_getElem?
        intro k
        rw [List.getElem?_drop]
        cases k with
        | zero => simpa using hz
        | succ k => rw [List.getElem?_eq_none (by omega)]; simp
      rw [h4] at h3; exact h3
    have hperm : l.Perm (l[0] :: l'.take (l.length - 1)) := by
      refine (hsp.symm.trans hp'.symm).trans ?_
      conv => lhs; rw [hsplit]
      exact List.perm_append_singleton _ _
    have htl : (l'.take (l.length - 1)).length = l.length - 1 := by rw [List.length_take]; omega
    refine h _ _ hperm (fun y hy2 => ?_) ?_
    · have hm : y ∈ l := hperm.mem_iff.2 (List.mem_cons_of_mem _ hy2)
      obtain ⟨k, hk⟩ := List.getElem?_of_mem hm
      have := HpF.min hh k (lt_of_get hk)
      rw [rkI, rkAt_eq hx, rkAt_eq hk] at this; exact this
    · unfold isHeap; rw [htl]
      exact hh'.congr (Nat.le_refl _) (fun k hk => rkI_take hk)
end
end Go.Proofs.YtihjaehkdgdenaaGreatDoor

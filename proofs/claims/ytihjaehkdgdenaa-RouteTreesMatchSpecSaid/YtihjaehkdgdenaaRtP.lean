/- Chapter texts of ours, as far as the claim needs them. -/
import Derived.Test.YtihjaehkdgdenaaRtH
import Derived.Test.YtihjaehkdgdenaaRtN
import Derived.Test.YtihjaehkdgdenaaDijk
namespace Go.Proofs.Ytihjaehkdgdenaa
open Go Go.RowKit
set_option linter.unusedVariables false
set_option linter.unusedSimpArgs false
def rkW (w : R7Worth) : Int := w.cost * kB + w.cells
def rkE (e : R7Entry) : Int := rkW e.worth
def okE (e : R7Entry) : Prop := 1 ≤ e.worth.cells ∧ e.worth.cells ≤ kB
def isHeap7 (l : List R7Entry) : Prop := HpF (rkAt rkE l) l.length 0
def pr7 (e : R7Entry) : (Int × Int) × Nat := ((e.worth.cost, e.worth.cells), e.state.toNat)
theorem S_worth_less {a b : R7Entry} (ha : okE a) (hb : okE b) {Q : Bool → Prop} (h : Q (decide (rkE a < rkE b))) : M_worth_less a.worth b.worth Q := by
  have hkB : kB = 1048576 := rfl
  unfold okE at ha hb
  unfold rkE rkW at h
  rw [hkB] at ha hb h
  unfold M_worth_less
  refine cnd_of (fun e => ?_) (fun e => cnd_of (fun e2 => ?_) (fun e2 => cnd_of (fun e3 => ?_) (fun e3 => ?_)))
  · simp at e; omega
  · simp at e2; rw [decide_eq_true (by omega)] at h; exact h
  · simp at e2 e3
    rw [show decide (a.worth.cost * 1048576 + a.worth.cells < b.worth.cost * 1048576 + b.worth.cells) = decide (a.worth.cells < b.worth.cells) from decide_eq_decide.2 (by omega)] at h; exact h
  · simp at e2 e3; rw [decide_eq_false (by omega)] at h; exact h
theorem rkE_append {l : List R7Entry} {x : R7Entry} {k : Nat} (hk : k < l.length) : rkAt rkE (l ++ [x]) k = rkAt rkE l k := by
  unfold rkAt; rw [List.getElem?_append_left hk]
theorem S_push7 {Q : R7Heap → Prop} {l : List R7Entry} {x : R7Entry} (hr : (l.length + 1) * 24 ≤ 140737488355328) (hok : ∀ y ∈ l, okE y) (hx : okE x) (hh : isHeap7 l) (h : ∀ l', l'.Perm (x :: l) → isHeap7 l' → Q ⟨l'⟩) : M_heap7_push ⟨l⟩ x Q := by
  unfold M_heap7_push
  have hlen : (l ++ [x]).length = l.length + 1 := by simp
  have hperm : (l ++ [x]).Perm (x :: l) := List.perm_append_singleton x l
  have hok2 : ∀ y ∈ l ++ [x], okE y := fun y hy => by
    rcases List.mem_append.1 hy with h1 | h1
    · exact hok y h1
    · simp at h1; subst h1; exact hx
  refine ⟨room_of (by rw [hlen]; exact hr) (by decide), ?_⟩
  show lp _ (l ++ [x], w64 (((l ++ [x]).length : Int) - 1))
  rw [show w64 (((l ++ [x]).length : Int) - 1) = (l.length : Int) by rw [hlen, w64_id] <;> omega]
  refine lp_measN (fun m (s : List R7Entry × Int) => s.2 = (m : Int) ∧ s.1.Perm (l ++ [x]) ∧ m < l.length + 1 ∧ UpI (rkAt rkE s.1) (l.length + 1) m) (n := l.length) ⟨rfl, .refl _, by omega, UpI.last (HpF.congr hh (Nat.le_refl _) (fun k hk => rkE_append hk))⟩ ?_
  rintro m ⟨l2, n2⟩ X ⟨hn, hp, hm, hu⟩ hX
  simp only at hn hp hu
  subst hn
  have hl2 : l2.length = l.length + 1 := hp.length_eq.trans hlen
  have okl : ∀ (k : Nat) y, l2[k]? = some y → okE y := fun k y hy => hok2 y (hp.mem_iff.1 (List.mem_of_getElem? hy))
  show M_heap7_push_L1 Q (fun l2 n2 => X (l2, n2)) l2 m
  unfold M_heap7_push_L1
  have stop : (0 < m → rkAt rkE l2 ((m - 1) / 2) ≤ rkAt rkE l2 m) → M_heap7_push_k2 Q l2 m (fun l2 n2 => X (l2, n2)) false := fun hd => by
    unfold M_heap7_push_k2
    simp only [cnd_false]
    exact h l2 (hp.trans hperm) (by unfold isHeap7; rw [hl2]; exact hu.stop hd)
  refine cnd_of (fun e => ?_) (fun e => ?_)
  · have h0 : 0 < m := by simpa using e
    have hxm : l2[m]? = some (l2[m]'(by omega)) := List.getElem?_eq_getElem (by omega)
    have hym : l2[(m - 1) / 2]? = some (l2[(m - 1) / 2]'(by omega)) := List.getElem?_eq_getElem (by omega)
    generalize l2[m]'(by omega) = u at hxm
    generalize l2[(m - 1) / 2]'(by omega) = v at hym
    rw [up_i (by omega)]
    refine idx_nat hxm (idx_nat hym (S_worth_less (okl _ _ hxm) (okl _ _ hym) ?_))
    by_cases hlt : rkE u < rkE v
    · rw [decide_eq_true hlt]
      unfold M_heap7_push_k2
      simp only [cnd_true]
      rw [up_i (by omega)]
      refine idx_nat hym (idx_nat hxm ?_)
      simp only [Int.toNat_natCast]
      have h3 : (l2.set m v)[(m - 1) / 2]? = some ((l2.set m v)[(m - 1) / 2]'(by rw [List.length_set]; omega)) := List.getElem?_eq_getElem (by rw [List.length_set]; omega)
      refine idx_nat h3 ?_
      refine hX ((m - 1) / 2) _ (by omega) ⟨rfl, (swapL_perm hxm hym).trans hp, by omega, ?_⟩
      exact hu.step h0 (by omega) (by rw [rkAt_eq hxm, rkAt_eq hym]; exact hlt) (fun k => by
        have := swapL_rk (r := rkE) hxm hym k
        show rkAt rkE (swapL l2 m ((m - 1) / 2) u v) k = _
        rw [this]
        by_cases c1 : k = m
        · subst c1; rw [if_pos rfl, if_neg (by omega), if_pos rfl]
        · rw [if_neg c1]
          by_cases c2 : k = (m - 1) / 2
          · rw [if_pos c2, if_pos c2]
          · rw [if_neg c2, if_neg c2, if_neg c1])
    · rw [decide_eq_false hlt]
      exact stop (fun _ => by rw [rkAt_eq hxm, rkAt_eq hym]; omega)
  · have h0 : ¬ 0 < m := by simpa using e
    exact stop (fun h1 => absurd h1 h0)
theorem pop_perm {l : List R7Entry} {x y : R7Entry} (hx : l[0]? = some x) (hy : l[l.length - 1]? = some y) : l.Perm (x :: (l.set 0 y).take (l.length - 1)) := by
  cases l with
  | nil => simp at hx
  | cons z t =>
    simp at hx; subst hx
    rcases List.eq_nil_or_concat t with rfl | ⟨t', u, rfl⟩
    · simp
    · have hyu : y = u := by simp at hy; exact hy.symm
      subst hyu
      simp only [List.set_cons_zero, List.length_cons, List.length_append, List.length_nil, Nat.zero_add, Nat.add_sub_cancel]
      rw [List.concat_eq_append, List.length_append]
      simp only [List.length_singleton, List.take_succ_cons, List.take_left']
      refine List.Perm.cons _ ?_
      exact List.perm_append_singleton y t'
theorem S_pop7 {Q : R7Entry → R7Heap → Prop} {l : List R7Entry} (hl : l.length ≤ 4000000) (h0 : 0 < l.length) (hok : ∀ y ∈ l, okE y) (hh : isHeap7 l) (h : ∀ x l', l.Perm (x :: l') → (∀ y ∈ l', rkE x ≤ rkE y) → isHeap7 l' → Q x ⟨l'⟩) : M_heap7_pop ⟨l⟩ Q := by
  unfold M_heap7_pop
  simp only
  have ew : w64 ((l.length : Int) - 1) = ((l.length - 1 : Nat) : Int) := by rw [w64_id] <;> omega
  rw [ew]
  have hx : l[0]? = some l[0] := List.getElem?_eq_getElem h0
  have hy : l[l.length - 1]? = some (l[l.length - 1]'(by omega)) := List.getElem?_eq_getElem (by omega)
  generalize l[0] = x at hx
  generalize l[l.length - 1]'(by omega) = y at hy
  refine idx_nat (i := 0) hx (idx_nat hy ⟨⟨by omega, by rw [List.length_set]; omega⟩, ?_⟩)
  rw [Int.toNat_natCast]
  have hperm := pop_perm hx hy
  generalize hl3 : (l.set 0 y).take (l.length - 1) = l3 at hperm
  have hlen3 : l3.length = l.length - 1 := by rw [← hl3, List.length_take, List.length_set]; omega
  have hrk : ∀ k, 0 < k → k < l.length - 1 → rkAt rkE l3 k = rkAt rkE l k := fun k hk hkn => by
    unfold rkAt; rw [← hl3, List.getElem?_take, if_pos hkn, List.getElem?_set_ne (by omega)]
  have fin : ∀ l', l'.Perm l3 → isHeap7 l' → Q x ⟨l'⟩ := fun l' hp hh' => by
    refine h x l' (hperm.trans (hp.symm.cons x)) (fun z hz => ?_) hh'
    have hm : z ∈ l := hperm.mem_iff.2 (List.mem_cons_of_mem _ (hp.mem_iff.1 hz))
    obtain ⟨k, hk⟩ := List.getElem?_of_mem hm
    have := HpF.min hh k (lt_of_get hk)
    rw [rkAt_eq hx, rkAt_eq hk] at this; exact this
  refine lp_measN (fun m (s : List R7Entry × Int) => ∃ p : Nat, s.2 = (p : Int) ∧ p + m = l.length ∧ s.1.Perm l3 ∧ DnI (rkAt rkE s.1) (l.length - 1) 0 p) (n := l.length) ⟨0, rfl, by omega, .refl _, DnI.pop hh (by omega) hrk⟩ ?_
  rintro m ⟨l2, n2⟩ X ⟨p, hp2, hpm, hp, hd⟩ hX
  simp only at hp2 hp hd
  subst hp2
  have hl2 : l2.length = l.length - 1 := hp.length_eq.trans hlen3
  have okl : ∀ (k : Nat) z, l2[k]? = some z → okE z := fun k z hz => hok z (hperm.mem_iff.2 (List.mem_cons_of_mem _ (hp.mem_iff.1 (List.mem_of_getElem? hz))))
  show M_heap7_pop_L1 ⟨l⟩ Q x (fun l2 n2 => X (l2, n2)) l2 p
  obtain ⟨ej1, ej2⟩ := down_j (i := p) (by omega)
  unfold M_heap7_pop_L1
  simp only
  rw [ej2, ej1, ew]
  have stop : (∀ k, 0 < k → k < l.length - 1 → (k - 1) / 2 = p → rkAt rkE l2 p ≤ rkAt rkE l2 k) → M_heap7_pop_k1 Q x l2 := fun hs =>
    fin l2 hp (by unfold isHeap7; rw [hl2]; exact hd.stop hs)
  refine cnd_of (fun e => ?_) (fun e => stop (fun k k1 k2 k3 => by simp at e; omega))
  have h1 : 2 * p + 1 < l.length - 1 := by simp at e; omega
  have hpx : l2[p]? = some (l2[p]'(by omega)) := List.getElem?_eq_getElem (by omega)
  have h1y : l2[2 * p + 1]? = some (l2[2 * p + 1]'(by omega)) := List.getElem?_eq_getElem (by omega)
  generalize l2[p]'(by omega) = u at hpx
  generalize l2[2 * p + 1]'(by omega) = v at h1y
  have go : ∀ (j : Nat) (z : R7Entry), l2[j]? = some z → 0 < j → j < l.length - 1 → (j - 1) / 2 = p → (∀ k, 0 < k → k < l.length - 1 → (k - 1) / 2 = p → rkAt rkE l2 j ≤ rkAt rkE l2 k) → M_heap7_pop_k3 Q x l2 p (fun l2 n2 => X (l2, n2)) (j : Int) := by
    intro j z hz hj0 hjn hjp hmin
    unfold M_heap7_pop_k3
    refine idx_nat hz (idx_nat hpx (S_worth_less (okl _ _ hz) (okl _ _ hpx) ?_))
    refine cnd_of (fun e2 => ?_) (fun e2 => ?_)
    · refine stop (fun k k1 k2 k3 => ?_)
      have := hmin k k1 k2 k3
      rw [rkAt_eq hz] at this
      rw [rkAt_eq hpx]; simp at e2; omega
    · simp at e2
      simp only [Int.toNat_natCast]
      have h3 : (l2.set p z)[j]? = some ((l2.set p z)[j]'(by rw [List.length_set]; omega)) := List.getElem?_eq_getElem (by rw [List.length_set]; omega)
      refine idx_nat h3 ?_
      refine hX (l.length - j) _ (by omega) ⟨j, rfl, by omega, (swapL_perm hpx hz).trans hp, ?_⟩
      exact hd.step (Nat.zero_le _) hjn ⟨hj0, hjp⟩ hmin (by rw [rkAt_eq hz, rkAt_eq hpx]; exact e2) (fun k => swapL_rk hpx hz k)
  refine cnd_of (fun e2 => ?_) (fun e2 => ?_)
  · have h2 : 2 * p + 2 < l.length - 1 := by simp at e2; omega
    have h2z : l2[2 * p + 2]? = some (l2[2 * p + 2]'(by omega)) := List.getElem?_eq_getElem (by omega)
    generalize l2[2 * p + 2]'(by omega) = z at h2z
    refine idx_nat h2z (idx_nat h1y (S_worth_less (okl _ _ h2z) (okl _ _ h1y) ?_))
    unfold M_heap7_pop_k4
    rw [ej2, ej1]
    refine cnd_of (fun e3 => ?_) (fun e3 => ?_)
    · have e3' : rkE z < rkE v := by simpa using e3
      refine go (2 * p + 2) _ h2z (by omega) h2 (by omega) (fun k k1 k2 k3 => ?_)
      rcases (show k = 2 * p + 1 ∨ k = 2 * p + 2 by omega) with rfl | rfl
      · rw [rkAt_eq h2z, rkAt_eq h1y]; omega
      · exact Int.le_refl _
    · have e3' : ¬ rkE z < rkE v := by simpa using e3
      refine go (2 * p + 1) _ h1y (by omega) h1 (by omega) (fun k k1 k2 k3 => ?_)
      rcases (show k = 2 * p + 1 ∨ k = 2 * p + 2 by omega) with rfl | rfl
      · exact Int.le_refl _
      · rw [rkAt_eq h2z, rkAt_eq h1y]; omega
  · simp at e2
    unfold M_heap7_pop_k4
    simp only [cnd_false]
    rw [ej1]
    refine go (2 * p + 1) _ h1y (by omega) h1 (by omega) (fun k k1 k2 k3 => ?_)
    obtain rfl : k = 2 * p + 1 := by omega
    exact Int.le_refl _
end Go.Proofs.Ytihjaehkdgdenaa

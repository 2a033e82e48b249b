/- Chapter 4: no other choice of sheets is nearer: the law. -/
import Derived.Test.YtjkkefhfbcgahaaStackZ
namespace Go.Proofs.Ytjkkefhfbcgahaa
open Go Go.RowKit
set_option linter.unusedVariables false

theorem sumOf_take : ∀ (G K : List Int) (k : Nat) (g x : Int), G[k]? = some g → K[k]? = some x → sumOf (G.take (k + 1)) (K.take (k + 1)) = sumOf (G.take k) (K.take k) + g * x
  | [], _, k, g, x, hg, _ => by simp at hg
  | _ :: _, [], k, g, x, _, hx => by simp at hx
  | a :: G, c :: K, 0, g, x, hg, hx => by
    simp at hg hx
    subst hg; subst hx
    simp [sumOf]
  | a :: G, c :: K, k + 1, g, x, hg, hx => by
    have ih := sumOf_take G K k g x (by simpa using hg) (by simpa using hx)
    rw [List.take_succ_cons, List.take_succ_cons, sumOf, ih, List.take_succ_cons, List.take_succ_cons, sumOf]
    omega
theorem sumOf_range : ∀ (G K : List Int), (∀ g ∈ G, 1 ≤ g ∧ g ≤ 2000) → (∀ k ∈ K, 1 ≤ k ∧ k ≤ 8) → 0 ≤ sumOf G K ∧ sumOf G K ≤ 16000 * (G.length : Int)
  | [], _, _, _ => by simp [sumOf]
  | g :: G, [], _, _ => by
    simp only [sumOf, List.length_cons]; omega
  | g :: G, k :: K, hg, hk => by
    obtain ⟨h1, h2⟩ := sumOf_range G K (fun x hx => hg x (List.mem_cons_of_mem _ hx)) (fun x hx => hk x (List.mem_cons_of_mem _ hx))
    have hg1 := hg g (List.mem_cons_self ..)
    have hk1 := hk k (List.mem_cons_self ..)
    have h3 : 0 ≤ g * k := Int.mul_nonneg (by omega) (by omega)
    have h4 : g * k ≤ 2000 * 8 := Int.mul_le_mul hg1.2 hk1.2 (by omega) (by omega)
    simp only [sumOf, List.length_cons]
    omega
theorem S_ref4_WithSheets {m : List Material} (hm : MatsOk m) {s : List Layer} (hs : s.length ≤ 60) {K : List Int} (hl : K.length = (gluesOf m s).length) (hK : ∀ k ∈ K, 1 ≤ k ∧ k ≤ 8) {Q : Int → Bool → Prop} (h : Q (baseOf m s + sumOf (gluesOf m s) K) true) : M_ref4_WithSheets m s K Q := by
  unfold M_ref4_WithSheets
  obtain ⟨hG, hb0, hb1⟩ := glues_ok hm hs
  have hc := hG.1
  refine S_ref4_glues hm hs (cnd_of (fun e => ?_) (fun _ => ?_))
  · rw [hl] at e; simp at e
  refine forIn0 (fun k n => n = baseOf m s + sumOf ((gluesOf m s).take k) (K.take k)) (by simp [sumOf]) (fun k g n hg hI next hn => ?_) (fun n hI => ?_)
  · have hk := lt_of_get hg
    have hx : K[k]? = some (K[k]'(by omega)) := List.getElem?_eq_getElem (by omega)
    generalize K[k]'(by omega) = x at hx
    have hX := hn _ rfl
    rw [sumOf_take _ _ _ _ _ hg hx] at hX
    have hgb := hG.2 g (List.mem_of_getElem? hg)
    have hxb := hK x (List.mem_of_getElem? hx)
    have h3 : 0 ≤ g * x := Int.mul_nonneg (by omega) (by omega)
    have h4 : g * x ≤ 2000 * 8 := Int.mul_le_mul hgb.2 hxb.2 (by omega) (by omega)
    obtain ⟨r1, r2⟩ := sumOf_range ((gluesOf m s).take k) (K.take k) (fun y hy => hG.2 y (List.mem_of_mem_take hy)) (fun y hy => hK y (List.mem_of_mem_take hy))
    have htl : ((gluesOf m s).take k).length ≤ 60 := by rw [List.length_take]; omega
    unfold M_ref4_WithSheets_L1
    refine idx_nat hx ?_
    rw [w64_id (n := g * x) (by omega) (by omega), hI, w64_id (by omega) (by omega), Int.add_assoc]
    exact hX
  · rw [List.take_length, ← hl, List.take_length] at hI
    subst hI; exact h
theorem sheets_in {M : Nat} : ∀ (G : List Int) (left : Nat) (v : Int), (fewL M G)[left]? = some v → 0 ≤ v → ∀ k ∈ sheetsOf M G left, 1 ≤ k ∧ k ≤ (M : Int)
  | [], left, v, _, _, k, hk => by simp [sheetsOf] at hk
  | g :: r, left, v, h, h0, k, hk => by
    obtain ⟨h1, h2, h3, ⟨a, h4, h5, h6⟩, _⟩ := sheet_spec h h0
    rw [sheetsOf, List.mem_cons] at hk
    rcases hk with hk | hk
    · omega
    · exact sheets_in r _ a h4 h5 k hk
theorem S_ref4_Far {n target : Int} (hn : -9000000 ≤ n ∧ n ≤ 9000000) (ht : 0 ≤ target ∧ target ≤ 1000000) {Q : Int → Prop} (h : Q (max n target - min n target)) : M_ref4_Far n target Q := by
  unfold M_ref4_Far M_ref4_apart
  rw [w64_id (by omega) (by omega)]; exact h
theorem S_ref4_Below {x most : Int} (hm : 1 ≤ most ∧ most ≤ 8) {Q : Int → Prop} (h : ∀ y, 0 ≤ y → y < most → Q y) : M_ref4_Below x most Q := by
  unfold M_ref4_Below
  have h1 : x.tmod most < most := Int.tmod_lt_of_pos x (by omega)
  have h2 : -most < x.tmod most := by
    have := Int.lt_tmod_of_pos x (show (0 : Int) < most by omega)
    omega
  refine ⟨by omega, cnd_of (fun e => ?_) (fun e => ?_)⟩
  · have e := of_decide_eq_true e
    rw [w64_id (by omega) (by omega)]
    exact h _ (by omega) (by omega)
  · have e := of_decide_eq_false e
    exact h _ (by omega) h1
theorem law_NearestIsNear_true (m : List Material) (s : List Layer) (most target : Int) (other : List Int) (hmf : Fits.fits m) (hf : Fits.fits s) : M_law_NearestIsNear m s most target other (· = true) := by
  unfold M_law_NearestIsNear
  refine S_stack_Nearest hmf hf ?_
  unfold Near
  split
  · rename_i hnf
    obtain ⟨hm, hs, _, _, _, hM, hmost, ht0, ht1⟩ := near_prep hnf
    obtain ⟨hG, hb0, hb1⟩ := glues_ok hm hs
    have hc := hG.1
    obtain ⟨b, v, hbe, hbv, hv0, hbl, hbest⟩ := best_facts hm hs hM target
    rw [hbe, Int.toNat_natCast]
    have hsum := sheets_sum (gluesOf m s) b v hG.2 hbv hv0
    have hin := sheets_in (gluesOf m s) b v hbv hv0
    have hlen := sheets_len most.toNat (gluesOf m s) b
    refine cnd_of (fun e => by simp at e) (fun _ => ?_)
    refine S_ref4_WithSheets hm hs hlen (fun k hk => ⟨(hin k hk).1, by have := (hin k hk).2; omega⟩) ?_
    rw [hsum]
    unfold M_law_NearestIsNear_k1
    refine cnd_of (fun e => by simp at e) (fun _ => cnd_of (fun e => by simp at e) (fun _ => ?_))
    refine forIn0 (fun k o => o.length = k ∧ ∀ x ∈ o, 1 ≤ x ∧ x ≤ most) ⟨rfl, by simp⟩ (fun k x o hx hI next hn => ?_) (fun o hI => ?_)
    · have hk := lt_of_get hx
      rw [hlen] at hk
      have put : ∀ y : Int, 0 ≤ y → y < most → M_law_NearestIsNear_k3 o next (1 + y) := fun y h0 h1 => by
        unfold M_law_NearestIsNear_k3
        refine ⟨room_of (by simp only [List.length_append, List.length_singleton]; have := hI.1; omega) (by omega), hn _ ⟨by simp [hI.1], fun z hz => ?_⟩⟩
        rcases List.mem_append.1 hz with hz | hz
        · exact hI.2 z hz
        · rw [List.mem_singleton] at hz; omega
      unfold M_law_NearestIsNear_L1
      refine cnd_of (fun e => ?_) (fun _ => ?_)
      · have e := of_decide_eq_true e
        refine idx_nat (List.getElem?_eq_getElem (by omega)) (S_ref4_Below (by omega) (fun y h0 h1 => ?_))
        rw [w64_id (n := 1 + y) (by omega) (by omega)]
        exact put y h0 h1
      · exact put 0 (by omega) (by omega)
    · obtain ⟨ho1, ho2⟩ := hI
      rw [hlen] at ho1
      refine S_ref4_WithSheets hm hs ho1 (fun k hk => ⟨(ho2 k hk).1, by have := (ho2 k hk).2; omega⟩) ?_
      obtain ⟨u, q0, q1, q2⟩ := few_has (M := most.toNat) (gluesOf m s) o hG.2 ho1.symm (fun k hk => ⟨(ho2 k hk).1, by have := (ho2 k hk).2; omega⟩)
      have hle := hbest _ _ q1 q2
      obtain ⟨_, r2⟩ := sumOf_range (gluesOf m s) o hG.2 (fun k hk => ⟨(ho2 k hk).1, by have := (ho2 k hk).2; omega⟩)
      rw [show (((sumOf (gluesOf m s) o).toNat : Nat) : Int) = sumOf (gluesOf m s) o by omega] at hle
      refine cnd_of (fun _ => ?_) (fun e => by cases e)
      refine S_ref4_Far (by omega) ⟨ht0, ht1⟩ (S_ref4_Far (by omega) ⟨ht0, ht1⟩ ?_)
      refine cnd_of (fun _ => S_awake rfl) (fun e => ?_)
      have e := of_decide_eq_false e
      unfold distA at hle
      omega
  · rename_i hnf
    refine cnd_of (fun _ => ?_) (fun e => by simp at e; exact absurd e hnf)
    refine cnd_of (fun _ => cnd_of (fun _ => S_awake rfl) (fun e => by simp at e)) (fun e => by simp at e)
end Go.Proofs.Ytjkkefhfbcgahaa

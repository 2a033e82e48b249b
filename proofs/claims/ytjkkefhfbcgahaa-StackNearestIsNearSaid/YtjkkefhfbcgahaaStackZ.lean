/- Chapter 4: the sheets that are nearest: the laws. -/
import Derived.Test.YtjkkefhfbcgahaaStackY
namespace Go.Proofs.Ytjkkefhfbcgahaa
open Go Go.RowKit
set_option linter.unusedVariables false

/-! ### the glues of a stack -/
def thk (m : List Material) (x : Layer) : Int := (matOf m x.Material).Thick
def glBase (m : List Material) (s : List Layer) : Nat → List Int × Int
  | 0 => ([], 0)
  | k + 1 => if kindAt m (s.getD k default) = 3 then ((glBase m s k).1 ++ [thk m (s.getD k default)], (glBase m s k).2) else ((glBase m s k).1, (glBase m s k).2 + thk m (s.getD k default))
theorem thk_range {m : List Material} (hm : MatsOk m) (x : Layer) : 0 ≤ thk m x ∧ thk m x ≤ 2000 ∧ (kindAt m x = 3 → 1 ≤ thk m x) := by
  have h := hasMat_kind hm x.Material
  refine ⟨h.2.2.2.1, h.2.2.2.2.1, fun h3 => ?_⟩
  have h4 : hasMat m x.Material = true := by
    rw [h.1]
    unfold kindAt at h3
    rw [h3]; rfl
  unfold hasMat at h4
  obtain ⟨b, hb⟩ := Option.isSome_iff_exists.1 h4
  have hbm := List.mem_of_find?_eq_some hb
  have := (hm.each b hbm).2.2.1
  unfold within at this
  simp at this
  unfold thk matOf
  rw [hb]; exact this.1
theorem glBase_ok {m : List Material} (hm : MatsOk m) (s : List Layer) : ∀ k, (glBase m s k).1.length ≤ k ∧ (∀ g ∈ (glBase m s k).1, 1 ≤ g ∧ g ≤ 2000) ∧ 0 ≤ (glBase m s k).2 ∧ (glBase m s k).2 ≤ 2000 * (k : Int)
  | 0 => by simp [glBase]
  | k + 1 => by
    obtain ⟨h1, h2, h3, h4⟩ := glBase_ok hm s k
    have ht := thk_range hm (s.getD k default)
    rw [glBase]
    split
    · rename_i e
      refine ⟨by simp only [List.length_append, List.length_singleton]; omega, fun g hg => ?_, h3, by simp only; omega⟩
      rcases List.mem_append.1 hg with hg | hg
      · exact h2 g hg
      · rw [List.mem_singleton] at hg; subst hg; exact ⟨ht.2.2 e, ht.2.1⟩
    · exact ⟨by simp only; omega, h2, by simp only; omega, by simp only; omega⟩
def gluesOf (m : List Material) (s : List Layer) : List Int := (glBase m s s.length).1
def baseOf (m : List Material) (s : List Layer) : Int := (glBase m s s.length).2
theorem gl_loop {m : List Material} (hm : MatsOk m) {s : List Layer} (hs : s.length ≤ 60) {body : Nat → Layer → List Int × Int → (List Int × Int → Prop) → Prop} {done : List Int × Int → Prop}
    (hb : ∀ k x l b next, (if kindAt m x = 3 then must (room (l ++ [thk m x]).length 8) (next (l ++ [thk m x], b)) else next (l, w64 (b + thk m x))) → body k x (l, b) next) (h : done (gluesOf m s, baseOf m s)) : forIn' body done s 0 (([] : List Int), 0) := by
  refine forIn0 (fun k st => st = glBase m s k) rfl (fun k x st hx hI next hn => ?_) (fun st hI => by subst hI; exact h)
  obtain ⟨l, b⟩ := st
  have hX := hn _ rfl
  have hk := lt_of_get hx
  have hok := glBase_ok hm s k
  have ht := thk_range hm x
  rw [← hI] at hok
  rw [glBase, getD_of hx, ← hI] at hX
  refine hb k x l b next ?_
  split
  · rename_i e
    rw [if_pos e] at hX
    refine ⟨room_of ?_ (by omega), hX⟩
    have := hok.1
    simp only [List.length_append, List.length_singleton] at this ⊢
    omega
  · rename_i e
    rw [if_neg e] at hX
    have h1 := hok.2.2.1
    have h2 := hok.2.2.2
    simp only at h1 h2 hX
    rw [w64_id (n := b + thk m x) (by omega) (by omega)]
    exact hX
theorem S_ref4_glues {m : List Material} (hm : MatsOk m) {s : List Layer} (hs : s.length ≤ 60) {Q : List Int → Int → Prop} (h : Q (gluesOf m s) (baseOf m s)) : M_ref4_glues m s Q := by
  unfold M_ref4_glues
  refine gl_loop hm hs (fun k x l b next hh => ?_) h
  unfold M_ref4_glues_L1
  refine S_ref4_materialOf (cnd_of (fun e => ?_) (fun e => ?_))
  · rw [if_pos (by unfold kindAt; simpa using e)] at hh; exact hh
  · rw [if_neg (by unfold kindAt; simpa using e)] at hh; exact hh
/-! ### the sum that is nearest -/
def distA (base target t : Int) : Int := max (base + t - target) (target - base - t)
def bestTo (F : List Int) (base target : Int) : Nat → Int
  | 0 => -1
  | k + 1 => if 0 ≤ F.getD k 0 ∧ (bestTo F base target k < 0 ∨ distA base target k < distA base target (bestTo F base target k)) then (k : Int) else bestTo F base target k
theorem bestTo_spec (F : List Int) (base target : Int) : ∀ k, k ≤ F.length → -1 ≤ bestTo F base target k ∧ bestTo F base target k < k ∧ (0 ≤ bestTo F base target k → 0 ≤ F.getD (bestTo F base target k).toNat 0) ∧
    ∀ t, t < k → 0 ≤ F.getD t 0 → 0 ≤ bestTo F base target k ∧ distA base target (bestTo F base target k) ≤ distA base target t
  | 0, _ => by simp [bestTo]
  | k + 1, h => by
    obtain ⟨h1, h2, h3, h4⟩ := bestTo_spec F base target k (by omega)
    rw [bestTo]
    split
    · rename_i e
      refine ⟨by omega, by omega, fun _ => by rw [Int.toNat_natCast]; exact e.1, fun t ht h0 => ⟨by omega, ?_⟩⟩
      by_cases et : t = k
      · subst et; exact Int.le_refl _
      · have := h4 t (by omega) h0
        rcases e.2 with e2 | e2
        · omega
        · omega
    · rename_i e
      refine ⟨h1, by omega, h3, fun t ht h0 => ?_⟩
      by_cases et : t = k
      · subst et
        have : ¬ (bestTo F base target t < 0 ∨ distA base target t < distA base target (bestTo F base target t)) := fun hh => e ⟨h0, hh⟩
        omega
      · exact h4 t (by omega) h0
def bestOf (m : List Material) (s : List Layer) (M : Nat) (target : Int) : Int := bestTo (fewL M (gluesOf m s)) (baseOf m s) target (fewL M (gluesOf m s)).length
def nearFault (m : List Material) (s : List Layer) (most target : Int) : Int := if stackFault m s ≠ 0 then stackFault m s else if within most 1 8 = false ∨ within target 0 1000000 = false then 1 else 0
theorem glues_ok {m : List Material} (hm : MatsOk m) {s : List Layer} (hs : s.length ≤ 60) : GluesOk (gluesOf m s) ∧ 0 ≤ baseOf m s ∧ baseOf m s ≤ 120000 := by
  obtain ⟨h1, h2, h3, h4⟩ := glBase_ok hm s s.length
  exact ⟨⟨by show (glBase m s s.length).1.length ≤ 60; omega, h2⟩, h3, by show (glBase m s s.length).2 ≤ 120000; omega⟩
theorem best_facts {m : List Material} (hm : MatsOk m) {s : List Layer} (hs : s.length ≤ 60) {M : Nat} (hM : 1 ≤ M ∧ M ≤ 8) (target : Int) : ∃ (b : Nat) (v : Int), bestOf m s M target = (b : Int) ∧ (fewL M (gluesOf m s))[b]? = some v ∧ 0 ≤ v ∧ b ≤ 960001 ∧ ∀ (t : Nat) (u : Int), (fewL M (gluesOf m s))[t]? = some u → 0 ≤ u → distA (baseOf m s) target b ≤ distA (baseOf m s) target t := by
  obtain ⟨hG, _, _⟩ := glues_ok hm hs
  obtain ⟨h1, h2, h3, h4⟩ := bestTo_spec (fewL M (gluesOf m s)) (baseOf m s) target _ (Nat.le_refl _)
  obtain ⟨v0, q0, q1, q2⟩ := few_has (M := M) (gluesOf m s) (List.replicate (gluesOf m s).length 1) hG.2 (by simp) (fun k hk => by rw [List.mem_replicate] at hk; omega)
  have hgd : ∀ (t : Nat) (x : Int), (fewL M (gluesOf m s))[t]? = some x → (fewL M (gluesOf m s)).getD t 0 = x := fun t x h => by rw [List.getD_eq_getElem?_getD, h]; rfl
  have h5 := h4 _ (lt_of_get q1) (by rw [hgd _ _ q1]; exact q2)
  have hsz := few_size hG hM 0
  rw [List.drop_zero] at hsz
  obtain ⟨b, hb⟩ := Int.eq_ofNat_of_zero_le h5.1
  have hb' : bestOf m s M target = (b : Int) := hb
  rw [hb] at h2 h3 h4
  have hbl : b < (fewL M (gluesOf m s)).length := by omega
  have h6 := h3 (by omega)
  rw [Int.toNat_natCast] at h6
  exact ⟨b, _, hb', get_getD hbl, h6, by omega, fun t u ht hu => (h4 t (lt_of_get ht) (by rw [hgd _ _ ht]; exact hu)).2⟩
theorem off_near {base target t : Int} (hb : 0 ≤ base ∧ base ≤ 120000) (ht : 0 ≤ target ∧ target ≤ 1000000) (h : 0 ≤ t ∧ t ≤ 960001) : max (w64 (w64 (base + t) - target)) (w64 (w64 (target - base) - t)) = distA base target t := by
  unfold distA
  rw [w64_id (n := base + t) (by omega) (by omega), w64_id (n := target - base) (by omega) (by omega), w64_id (by omega) (by omega), w64_id (by omega) (by omega)]
theorem apart_near {base target t : Int} (hb : 0 ≤ base ∧ base ≤ 120000) (ht : 0 ≤ target ∧ target ≤ 1000000) (h : 0 ≤ t ∧ t ≤ 960001) : w64 (max (base + t) target - min (base + t) target) = distA base target t := by
  unfold distA
  rw [w64_id (by omega) (by omega)]; omega
/-- how one round of the search for the number of sheets ends -/
theorem sheets_loop {M : Nat} {G : List Int} (hG : GluesOk G) (hM : 1 ≤ M ∧ M ≤ 8) {b : Nat} {v0 : Int} (hb : (fewL M G)[b]? = some v0) (hv0 : 0 ≤ v0) {body : Nat → Int → List Int × Int → (List Int × Int → Prop) → Prop} {done : List Int × Int → Prop}
    (hbody : ∀ (k : Nat) (g : Int) (acc : List Int) (left : Nat) (v : Int) (next : List Int × Int → Prop), G[k]? = some g → (fewL M (G.drop k))[left]? = some v → 0 ≤ v → acc.length = k → next (acc ++ [(sheetN M g (G.drop (k + 1)) left : Int)], ((left - sheetN M g (G.drop (k + 1)) left * g.toNat : Nat) : Int)) → body k g (acc, (left : Int)) next)
    (hd : ∀ x, done (sheetsOf M G b, x)) : forIn' body done G 0 (([] : List Int), (b : Int)) := by
  refine forIn0 (fun k st => ∃ (left : Nat) (v : Int), st.2 = (left : Int) ∧ (fewL M (G.drop k))[left]? = some v ∧ 0 ≤ v ∧ st.1 ++ sheetsOf M (G.drop k) left = sheetsOf M G b ∧ st.1.length = k) ⟨b, v0, rfl, hb, hv0, rfl, rfl⟩ (fun k g st hg hI next hn => ?_) (fun st hI => ?_)
  · obtain ⟨left, v, h1, h2, h3, h4, h5⟩ := hI
    obtain ⟨acc, n4⟩ := st
    simp only at h1 h4 h5
    subst h1
    rw [drop_glue hg] at h2 h4
    obtain ⟨p1, p2, p3, ⟨a, p4, p5, p6⟩, _⟩ := sheet_spec h2 h3
    refine hbody k g acc left v next hg (by rw [drop_glue hg]; exact h2) h3 h5 (hn _ ⟨_, a, rfl, p4, p5, ?_, by simp [h5]⟩)
    rw [← h4, sheetsOf]; simp
  · obtain ⟨left, v, h1, h2, h3, h4, h5⟩ := hI
    rw [List.drop_length] at h4
    simp only [sheetsOf, List.append_nil] at h4
    obtain ⟨acc, n4⟩ := st
    simp only at h4
    subst h4
    exact hd n4
theorem near_prep {m : List Material} {s : List Layer} {most target : Int} (h : nearFault m s most target = 0) : MatsOk m ∧ s.length ≤ 60 ∧ stackFault m s = 0 ∧ within most 1 8 = true ∧ within target 0 1000000 = true ∧ (1 ≤ most.toNat ∧ most.toNat ≤ 8) ∧ most = (most.toNat : Int) ∧ 0 ≤ target ∧ target ≤ 1000000 := by
  unfold nearFault at h
  split at h; · rename_i hh; exact absurd h hh
  rename_i h1
  split at h; · cases h
  rename_i h2
  have h1 : stackFault m s = 0 := Decidable.not_not.1 h1
  obtain ⟨hm, hs, _⟩ := stack_ok h1
  have h3 : within most 1 8 = true := by cases hh : within most 1 8 with | true => rfl | false => exact absurd (.inl hh) h2
  have h4 : within target 0 1000000 = true := by cases hh : within target 0 1000000 with | true => rfl | false => exact absurd (.inr hh) h2
  have h5 := h3; have h6 := h4
  unfold within at h5 h6
  simp at h5 h6
  exact ⟨hm, hs, h1, h3, h4, by omega, by omega, h6.1, h6.2⟩
def Near (m : List Material) (s : List Layer) (most target : Int) (Q : List Int → Int → Int → Prop) : Prop :=
  if nearFault m s most target = 0 then Q (sheetsOf most.toNat (gluesOf m s) (bestOf m s most.toNat target).toNat) (baseOf m s + bestOf m s most.toNat target) 0 else Q [] 0 (nearFault m s most target)
theorem mul_left {n : Nat} {g : Int} (hg : 1 ≤ g ∧ g ≤ 2000) (hn : n ≤ 9) : w64 ((n : Int) * g) = ((n * g.toNat : Nat) : Int) := by
  have := mul_le hg hn
  rw [mul_nat hg, w64_id (by omega) (by omega)]
theorem S_stack_Nearest {m : List Material} {s : List Layer} (hmf : Fits.fits m) (hf : Fits.fits s) {most target : Int} {Q : List Int → Int → Int → Prop} (h : Near m s most target Q) : M_stack_Nearest m s most target Q := by
  unfold M_stack_Nearest
  unfold Near at h
  refine S_stack_CheckStack hmf hf (cnd_of (fun e => ?_) (fun e => ?_))
  · have e : stackFault m s ≠ 0 := by simpa using e
    rw [show nearFault m s most target = stackFault m s by unfold nearFault; rw [if_pos e], if_neg e] at h; exact h
  have e : stackFault m s = 0 := by simpa using e
  have bad : (within most 1 8 = false ∨ within target 0 1000000 = false) → Q [] 0 1 := fun hh => by
    rw [show nearFault m s most target = 1 by unfold nearFault; rw [if_neg (fun q => q e), if_pos hh], if_neg (by decide)] at h; exact h
  unfold M_stack_Nearest_k1
  refine cnd_of (fun e1 => cnd_of (fun _ => bad (.inl (by simpa using e1))) (fun q => by cases q)) (fun e1 => cnd_of (fun e2 => bad (.inr (by simpa using e2))) (fun e2 => ?_))
  have hnf : nearFault m s most target = 0 := by
    unfold nearFault; rw [if_neg (fun q => q e), if_neg]
    intro q
    rcases q with q | q
    · rw [q] at e1; cases e1
    · rw [q] at e2; cases e2
  rw [if_pos hnf] at h
  obtain ⟨hm, hs, _, _, _, hM, hmost, ht0, ht1⟩ := near_prep hnf
  obtain ⟨hG, hb0, hb1⟩ := glues_ok hm hs
  obtain ⟨b, v, hbe, hbv, hv0, hbl, _⟩ := best_facts hm hs hM target
  refine gl_loop hm hs (fun k x l b next hh => ?_) ?_
  · unfold M_stack_Nearest_L1
    refine S_stack_materialOf hm (cnd_of (fun e => ?_) (fun e => ?_))
    · rw [if_pos (by unfold kindAt; simpa using e)] at hh; exact hh
    · rw [if_neg (by unfold kindAt; simpa using e)] at hh; exact hh
  show M_stack_fewest (gluesOf m s) most _
  rw [hmost]
  refine S_stack_fewest hG hM ?_
  refine idx_nat (i := 0) (tabI_get (by omega)) ?_
  rw [if_pos (Nat.le_refl _)]
  unfold rowI
  rw [List.drop_zero]
  have hsz := few_size hG hM 0
  rw [List.drop_zero] at hsz
  refine forIn0 (fun k n => n = bestTo (fewL most.toNat (gluesOf m s)) (baseOf m s) target k) rfl (fun k x n hx hI next hn => ?_) (fun n hI => ?_)
  · have hX := hn _ rfl
    have hk := lt_of_get hx
    rw [List.length_map] at hk
    have hxa : x = ⟨(fewL most.toNat (gluesOf m s)).getD k 0⟩ := by
      rw [List.getElem?_map, get_getD hk] at hx
      injection hx with hx; exact hx.symm
    subst hxa
    have hbs := bestTo_spec (fewL most.toNat (gluesOf m s)) (baseOf m s) target k (by omega)
    rw [bestTo, ← hI] at hX
    rw [← hI] at hbs
    unfold M_stack_Nearest_L2 M_stack_Nearest_k7
    refine cnd_of (fun e3 => ?_) (fun e3 => cnd_of (fun q => by cases q) (fun _ => ?_))
    · have e3 : 0 ≤ (fewL most.toNat (gluesOf m s)).getD k 0 := of_decide_eq_true e3
      refine cnd_of (fun e4 => cnd_of (fun _ => ?_) (fun q => by cases q)) (fun e4 => ?_)
      · rw [if_pos ⟨e3, .inl (of_decide_eq_true e4)⟩] at hX; exact hX
      · have e4 := of_decide_eq_false e4
        show cnd (decide (max (w64 (w64 (baseOf m s + (k : Int)) - target)) (w64 (w64 (target - baseOf m s) - (k : Int))) < max (w64 (w64 (baseOf m s + n) - target)) (w64 (w64 (target - baseOf m s) - n)))) _ _
        rw [off_near ⟨hb0, hb1⟩ ⟨ht0, ht1⟩ (by omega), off_near ⟨hb0, hb1⟩ ⟨ht0, ht1⟩ (by omega)]
        refine cnd_of (fun e5 => ?_) (fun e5 => ?_)
        · rw [if_pos ⟨e3, .inr (of_decide_eq_true e5)⟩] at hX; exact hX
        · rw [if_neg (fun q => by
            rcases q.2 with q | q
            · exact e4 q
            · exact (of_decide_eq_false e5) q)] at hX
          exact hX
    · rw [if_neg (fun q => (of_decide_eq_false e3) q.1)] at hX; exact hX
  rw [List.length_map] at hI
  have hI : n = bestOf m s most.toNat target := hI
  rw [hbe] at hI
  subst hI
  rw [hbe, Int.toNat_natCast] at h
  refine sheets_loop hG hM hbv hv0 (fun k g acc left v next hg hv hv0 hacc hN => ?_) (fun x => ?_)
  · have hk := lt_of_get hg
    have hgb := hG.2 g (List.mem_of_getElem? hg)
    have hdg := drop_glue hg
    have hvb := few_val hG hM hv
    have hv' := hv
    rw [hdg] at hv'
    obtain ⟨p1, p2, p3, ⟨a, p4, p5, p6⟩, p7⟩ := sheet_spec hv' hv0
    have hll := lt_of_get hv
    have hszk := few_size hG hM k
    have step : ∀ (nn : Nat) (A : Int → Prop), 1 ≤ nn → nn ≤ 9 → (¬ (nn * g.toNat ≤ left ∧ ∃ a, (fewL most.toNat ((gluesOf m s).drop (k + 1)))[left - nn * g.toNat]? = some a ∧ a = v - (nn : Int)) → A (w64 ((nn : Int) + 1))) →
        ((nn * g.toNat ≤ left ∧ ∃ a, (fewL most.toNat ((gluesOf m s).drop (k + 1)))[left - nn * g.toNat]? = some a ∧ a = v - (nn : Int)) → must (room (acc ++ [(nn : Int)]).length 8) (next (acc ++ [(nn : Int)], w64 ((left : Int) - w64 ((nn : Int) * g))))) →
        M_stack_Nearest_L4 (tabI most.toNat (gluesOf m s) 0) k g acc (left : Int) (fun l4 n4 => next (l4, n4)) A (nn : Int) := by
      intro nn A hn1 hn9 hno hyes
      have hng := mul_le (j := nn) hgb hn9
      unfold M_stack_Nearest_L4 M_stack_Nearest_k6
      rw [mul_left hgb hn9] at hyes ⊢
      refine cnd_of (fun e1 => cnd_of (fun _ => hno (fun q => ?_)) (fun q => by cases q)) (fun e1 => ?_)
      · have := of_decide_eq_true e1; omega
      have e1 := of_decide_eq_false e1
      rw [w64_id (n := (left : Int) - ((nn * g.toNat : Nat) : Int)) (by omega) (by omega), show (left : Int) - ((nn * g.toNat : Nat) : Int) = ((left - nn * g.toNat : Nat) : Int) by omega] at hyes ⊢
      refine idx_nat (tabI_get (by omega)) ?_
      rw [if_pos (by omega)]
      unfold rowI
      rw [List.length_map]
      refine cnd_of (fun e2 => cnd_of (fun _ => hno (fun q => ?_)) (fun q => by cases q)) (fun e2 => ?_)
      · obtain ⟨_, a, qa, _⟩ := q
        have := lt_of_get qa
        have := of_decide_eq_true e2; omega
      have e2 := of_decide_eq_false e2
      have hla : left - nn * g.toNat < (fewL most.toNat ((gluesOf m s).drop (k + 1))).length := by omega
      have hga := get_getD hla
      refine idx_nat (x := ⟨(fewL most.toNat ((gluesOf m s).drop (k + 1))).getD (left - nn * g.toNat) 0⟩) (by rw [List.getElem?_map, hga]; rfl) ?_
      refine idx_nat (tabI_get (by omega)) ?_
      rw [if_pos (by omega)]
      unfold rowI
      refine idx_nat (x := ⟨v⟩) (by rw [List.getElem?_map, hv]; rfl) ?_
      rw [c16 (n := (nn : Int)) (by omega) (by omega), c16 (n := v - (nn : Int)) (by omega) (by omega)]
      refine cnd_of (fun e3 => hno (fun q => ?_)) (fun e3 => hyes ⟨by omega, _, hga, by simpa using e3⟩)
      obtain ⟨_, a, qa, qe⟩ := q
      rw [hga] at qa; injection qa with qa
      rw [← qa] at qe
      rw [bne_iff_ne] at e3
      exact e3 qe
    unfold M_stack_Nearest_L3
    refine lp_upto (fun j => ((j + 1 : Nat) : Int)) (sheetN most.toNat g ((gluesOf m s).drop (k + 1)) left - 1) rfl (fun Z j hj hZ => ?_) (fun Z => ?_)
    · refine step (j + 1) Z (by omega) (by omega) (fun _ => ?_) (fun q => absurd q (p7 (j + 1) (by omega) (by omega)))
      rw [w64_id (by omega) (by omega)]
      exact hZ
    · rw [show sheetN most.toNat g ((gluesOf m s).drop (k + 1)) left - 1 + 1 = sheetN most.toNat g ((gluesOf m s).drop (k + 1)) left by omega]
      refine step _ Z p1 (by omega) (fun q => absurd ⟨p3, a, p4, by omega⟩ q) (fun _ => ⟨room_of (by simp only [List.length_append, List.length_singleton]; have := hG.1; omega) (by omega), ?_⟩)
      rw [mul_left hgb (by omega), w64_id (by omega) (by omega), show (left : Int) - ((sheetN most.toNat g ((gluesOf m s).drop (k + 1)) left * g.toNat : Nat) : Int) = ((left - sheetN most.toNat g ((gluesOf m s).drop (k + 1)) left * g.toNat : Nat) : Int) by omega]
      exact hN
  · rw [w64_id (n := baseOf m s + (b : Int)) (by omega) (by omega)]
    exact h
theorem S_ref4_Nearest {m : List Material} {s : List Layer} (hmf : Fits.fits m) (hf : Fits.fits s) {most target : Int} {Q : List Int → Int → Int → Prop} (h : Near m s most target Q) : M_ref4_Nearest m s most target Q := by
  unfold M_ref4_Nearest
  unfold Near at h
  refine S_ref4_CheckStack hmf hf (cnd_of (fun e => ?_) (fun e => ?_))
  · have e : stackFault m s ≠ 0 := by simpa using e
    rw [show nearFault m s most target = stackFault m s by unfold nearFault; rw [if_pos e], if_neg e] at h; exact h
  have e : stackFault m s = 0 := by simpa using e
  have bad : (within most 1 8 = false ∨ within target 0 1000000 = false) → Q [] 0 1 := fun hh => by
    rw [show nearFault m s most target = 1 by unfold nearFault; rw [if_neg (fun q => q e), if_pos hh], if_neg (by decide)] at h; exact h
  unfold M_ref4_Nearest_k1
  refine cnd_of (fun e1 => cnd_of (fun _ => bad (.inl (by simpa using e1))) (fun q => by cases q)) (fun e1 => cnd_of (fun e2 => bad (.inr (by simpa using e2))) (fun e2 => ?_))
  have hnf : nearFault m s most target = 0 := by
    unfold nearFault; rw [if_neg (fun q => q e), if_neg]
    intro q
    rcases q with q | q
    · rw [q] at e1; cases e1
    · rw [q] at e2; cases e2
  rw [if_pos hnf] at h
  obtain ⟨hm, hs, _, _, _, hM, hmost, ht0, ht1⟩ := near_prep hnf
  obtain ⟨hG, hb0, hb1⟩ := glues_ok hm hs
  obtain ⟨b, v, hbe, hbv, hv0, hbl, _⟩ := best_facts hm hs hM target
  refine S_ref4_glues hm hs ?_
  rw [hmost]
  refine S_ref4_fewest hG hM ?_
  refine idx_nat (i := 0) (tabF_get (by omega)) ?_
  rw [if_pos (Nat.le_refl _), List.drop_zero]
  have hsz := few_size hG hM 0
  rw [List.drop_zero] at hsz
  refine forIn0 (fun k n => n = bestTo (fewL most.toNat (gluesOf m s)) (baseOf m s) target k) rfl (fun k x n hx hI next hn => ?_) (fun n hI => ?_)
  · have hX := hn _ rfl
    have hk := lt_of_get hx
    have hxa : (fewL most.toNat (gluesOf m s)).getD k 0 = x := by rw [List.getD_eq_getElem?_getD, hx]; rfl
    have hbs := bestTo_spec (fewL most.toNat (gluesOf m s)) (baseOf m s) target k (by omega)
    rw [bestTo, ← hI, hxa] at hX
    rw [← hI] at hbs
    unfold M_ref4_Nearest_L1 M_ref4_Nearest_k6
    refine cnd_of (fun e3 => ?_) (fun e3 => cnd_of (fun q => by cases q) (fun _ => ?_))
    · have e3 : 0 ≤ x := of_decide_eq_true e3
      refine cnd_of (fun e4 => cnd_of (fun _ => ?_) (fun q => by cases q)) (fun e4 => ?_)
      · rw [if_pos ⟨e3, .inl (of_decide_eq_true e4)⟩] at hX; exact hX
      · have e4 := of_decide_eq_false e4
        rw [w64_id (n := baseOf m s + (k : Int)) (by omega) (by omega), w64_id (n := baseOf m s + n) (by omega) (by omega)]
        show cnd (decide (w64 (max (baseOf m s + (k : Int)) target - min (baseOf m s + (k : Int)) target) < w64 (max (baseOf m s + n) target - min (baseOf m s + n) target))) _ _
        rw [apart_near ⟨hb0, hb1⟩ ⟨ht0, ht1⟩ (by omega), apart_near ⟨hb0, hb1⟩ ⟨ht0, ht1⟩ (by omega)]
        refine cnd_of (fun e5 => ?_) (fun e5 => ?_)
        · rw [if_pos ⟨e3, .inr (of_decide_eq_true e5)⟩] at hX; exact hX
        · rw [if_neg (fun q => by
            rcases q.2 with q | q
            · exact e4 q
            · exact (of_decide_eq_false e5) q)] at hX
          exact hX
    · rw [if_neg (fun q => (of_decide_eq_false e3) q.1)] at hX; exact hX
  have hI : n = bestOf m s most.toNat target := hI
  rw [hbe] at hI
  subst hI
  rw [hbe, Int.toNat_natCast] at h
  refine sheets_loop hG hM hbv hv0 (fun k g acc left v next hg hv hv0 hacc hN => ?_) (fun x => ?_)
  · have hk := lt_of_get hg
    have hgb := hG.2 g (List.mem_of_getElem? hg)
    have hdg := drop_glue hg
    have hvb := few_val hG hM hv
    have hv' := hv
    rw [hdg] at hv'
    obtain ⟨p1, p2, p3, ⟨a, p4, p5, p6⟩, p7⟩ := sheet_spec hv' hv0
    have hll := lt_of_get hv
    have hszk := few_size hG hM k
    have step : ∀ (nn : Nat) (A : Int → Prop), 1 ≤ nn → nn ≤ 9 → (¬ (nn * g.toNat ≤ left ∧ ∃ a, (fewL most.toNat ((gluesOf m s).drop (k + 1)))[left - nn * g.toNat]? = some a ∧ 0 ≤ a ∧ a + (nn : Int) = v) → A (w64 ((nn : Int) + 1))) →
        ((nn * g.toNat ≤ left ∧ ∃ a, (fewL most.toNat ((gluesOf m s).drop (k + 1)))[left - nn * g.toNat]? = some a ∧ 0 ≤ a ∧ a + (nn : Int) = v) → must (room (acc ++ [(nn : Int)]).length 8) (next (acc ++ [(nn : Int)], w64 ((left : Int) - w64 ((nn : Int) * g))))) →
        M_ref4_Nearest_L3 (tabF most.toNat (gluesOf m s) 0) k g acc (left : Int) (fun l2 n4 => next (l2, n4)) A (nn : Int) := by
      intro nn A hn1 hn9 hno hyes
      have hng := mul_le (j := nn) hgb hn9
      unfold M_ref4_Nearest_L3 M_ref4_Nearest_k5
      rw [mul_left hgb hn9] at hyes ⊢
      rw [w64_id (n := (left : Int) - ((nn * g.toNat : Nat) : Int)) (by omega) (by omega)] at hyes ⊢
      refine cnd_of (fun e1 => cnd_of (fun _ => hno (fun q => ?_)) (fun q => by cases q)) (fun e1 => ?_)
      · have := of_decide_eq_true e1; omega
      have e1 := of_decide_eq_false e1
      rw [show (left : Int) - ((nn * g.toNat : Nat) : Int) = ((left - nn * g.toNat : Nat) : Int) by omega] at hyes ⊢
      refine idx_nat (tabF_get (by omega)) ?_
      rw [if_pos (by omega)]
      refine cnd_of (fun e2 => cnd_of (fun _ => hno (fun q => ?_)) (fun q => by cases q)) (fun e2 => ?_)
      · obtain ⟨_, a, qa, _⟩ := q
        have := lt_of_get qa
        have := of_decide_eq_true e2; omega
      have e2 := of_decide_eq_false e2
      have hla : left - nn * g.toNat < (fewL most.toNat ((gluesOf m s).drop (k + 1))).length := by omega
      have hga := get_getD hla
      have hgv := few_val hG hM hga
      refine idx_nat hga ?_
      refine cnd_of (fun e4 => cnd_of (fun _ => hno (fun q => ?_)) (fun q => by cases q)) (fun e4 => ?_)
      · obtain ⟨_, a, qa, q0, _⟩ := q
        rw [hga] at qa; injection qa with qa
        have := of_decide_eq_true e4; omega
      have e4 := of_decide_eq_false e4
      refine idx_nat (tabF_get (by omega)) ?_
      rw [if_pos (by omega)]
      refine idx_nat hv ?_
      rw [w64_id (n := (fewL most.toNat ((gluesOf m s).drop (k + 1))).getD (left - nn * g.toNat) 0 + (nn : Int)) (by omega) (by omega)]
      refine cnd_of (fun e3 => hno (fun q => ?_)) (fun e3 => hyes ⟨by omega, _, hga, by omega, by simpa using e3⟩)
      obtain ⟨_, a, qa, _, qe⟩ := q
      rw [hga] at qa; injection qa with qa
      rw [← qa] at qe
      rw [bne_iff_ne] at e3
      exact e3 qe
    unfold M_ref4_Nearest_L2
    refine lp_upto (fun j => ((j + 1 : Nat) : Int)) (sheetN most.toNat g ((gluesOf m s).drop (k + 1)) left - 1) rfl (fun Z j hj hZ => ?_) (fun Z => ?_)
    · have hnot := p7 (j + 1) (by omega) (by omega)
      refine step (j + 1) Z (by omega) (by omega) (fun _ => ?_) (fun q => ?_)
      · rw [w64_id (by omega) (by omega)]
        exact hZ
      · obtain ⟨q1, a, q2, q3, q4⟩ := q
        exact absurd ⟨q1, a, q2, by omega⟩ hnot
    · rw [show sheetN most.toNat g ((gluesOf m s).drop (k + 1)) left - 1 + 1 = sheetN most.toNat g ((gluesOf m s).drop (k + 1)) left by omega]
      refine step _ Z p1 (by omega) (fun q => absurd ⟨p3, a, p4, p5, p6⟩ q) (fun _ => ⟨room_of (by simp only [List.length_append, List.length_singleton]; have := hG.1; omega) (by omega), ?_⟩)
      rw [mul_left hgb (by omega), w64_id (by omega) (by omega), show (left : Int) - ((sheetN most.toNat g ((gluesOf m s).drop (k + 1)) left * g.toNat : Nat) : Int) = ((left - sheetN most.toNat g ((gluesOf m s).drop (k + 1)) left * g.toNat : Nat) : Int) by omega]
      exact hN
  · rw [w64_id (n := baseOf m s + (b : Int)) (by omega) (by omega)]
    exact h
theorem S_equal_int {xs ys : List Int} {Q : Bool → Prop} (h : Q (decide (xs = ys))) : M_equal_int xs ys Q := by
  unfold M_equal_int
  refine equal_loop (fun k x next hq => ?_) h
  unfold M_equal_int_L1
  obtain ⟨h0, y, hy, hc⟩ := hq
  refine ⟨h0, y, hy, ?_⟩
  have : (x != y) = !(decide (x = y)) := by rw [Bool.eq_iff_iff]; simp
  dsimp only
  rw [this]; exact hc
theorem law_NearestMatches_true (m : List Material) (s : List Layer) (most target : Int) (hmf : Fits.fits m) (hf : Fits.fits s) : M_law_NearestMatches m s most target (· = true) := by
  unfold M_law_NearestMatches
  have fin : ∀ (l : List Int) (n f : Int), cnd (f == f) (cnd (n == n) (M_equal_int l l fun y7 => cnd y7 (M_awake fun y8 => y8 = true) (false = true)) (false = true)) (false = true) := fun l n f => by
    refine cnd_of (fun _ => cnd_of (fun _ => S_equal_int ?_) (fun e => by simp at e)) (fun e => by simp at e)
    exact cnd_of (fun _ => S_awake rfl) (fun e => by simp at e)
  refine S_stack_Nearest hmf hf ?_
  unfold Near
  split
  · rename_i e
    refine S_ref4_Nearest hmf hf ?_
    unfold Near
    rw [if_pos e]; exact fin _ _ _
  · rename_i e
    refine S_ref4_Nearest hmf hf ?_
    unfold Near
    rw [if_neg e]; exact fin _ _ _
end Go.Proofs.Ytjkkefhfbcgahaa

/- Chapter texts of ours, as far as the claim needs them. -/
import Derived.Test.YtcmlcgjjkccaeaaDoorDoorT
namespace Go.Proofs.YtcmlcgjjkccaeaaDoor
open Go Go.RowKit
set_option linter.unusedVariables false
set_option linter.unusedSimpArgs false
section
variable {b : List Body} {l : List Place}
def newRound (b : List Body) (l : List Place) (heads : Int) (r : List Int) (tall x : Int) : Bool :=
  decide ((r.length : Int) = heads) || decide (sideP (plc l x) ≠ sideP (plc l (r.headD 0))) || decide (tallB b (plc l x) < tall)
def rStep (b : List Body) (l : List Place) (heads : Int) (s : List (List Int) × Int) (x : Int) : List (List Int) × Int :=
  match s.1.getLast? with
  | none => (s.1 ++ [[x]], tallB b (plc l x))
  | some r => if newRound b l heads r s.2 x = true then (s.1 ++ [[x]], tallB b (plc l x)) else (s.1.dropLast ++ [r ++ [x]], max s.2 (tallB b (plc l x)))
def rGo (b : List Body) (l : List Place) (heads : Int) (o : List Int) : List (List Int) × Int := o.foldl (rStep b l heads) ([], 0)
structure RInv (l : List Place) (heads : Int) (o : List Int) (acc : List (List Int)) : Prop where
  flat : acc.flatten = o
  each : ∀ r ∈ acc, 0 < r.length ∧ (r.length : Int) ≤ heads
  side : ∀ r ∈ acc, ∀ x ∈ r, sideP (plc l x) = sideP (plc l (r.headD 0))
theorem rStep_nil (heads tall x : Int) : rStep b l heads ([], tall) x = ([[x]], tallB b (plc l x)) := rfl
theorem rStep_snoc (heads tall x : Int) (I : List (List Int)) (r : List Int) : rStep b l heads (I ++ [r], tall) x = if newRound b l heads r tall x = true then (I ++ [r] ++ [[x]], tallB b (plc l x)) else (I ++ [r ++ [x]], max tall (tallB b (plc l x))) := by
  unfold rStep
  simp only [List.getLast?_concat, List.dropLast_concat]
theorem RInv.step {heads : Int} (hh : 1 ≤ heads) {o : List Int} {acc : List (List Int)} {tall x : Int} (h : RInv l heads o acc) : RInv l heads (o ++ [x]) (rStep b l heads (acc, tall) x).1 := by
  have one : ∀ acc, RInv l heads o acc → RInv l heads (o ++ [x]) (acc ++ [[x]]) := fun acc h =>
    ⟨by rw [List.flatten_append, h.flat]; simp, fun r hr => by
      rcases List.mem_append.1 hr with h1 | h1
      · exact h.each r h1
      · simp at h1; subst h1; exact ⟨by simp, by simpa using hh⟩, fun r hr y hy => by
      rcases List.mem_append.1 hr with h1 | h1
      · exact h.side r h1 y hy
      · simp at h1; subst h1; simp at hy; subst hy; rfl⟩
  rcases List.eq_nil_or_concat acc with rfl | ⟨I, r, rfl⟩
  · rw [rStep_nil]; exact one [] h
  · simp only [List.concat_eq_append] at *
    rw [rStep_snoc]
    split
    · exact one _ h
    · rename_i hn
      have hr := h.each r (by simp)
      have hside := h.side r (by simp)
      unfold newRound at hn
      have hn1 : (r.length : Int) ≠ heads ∧ sideP (plc l x) = sideP (plc l (r.headD 0)) := by
        have hn' : newRound b l heads r tall x = false := by unfold newRound; simpa using hn
        unfold newRound at hn'
        simp only [Bool.or_eq_false_iff, decide_eq_false_iff_not, Decidable.not_not] at hn'
        exact hn'.1
      cases r with
      | nil => simp at hr
      | cons y t =>
        refine ⟨?_, fun q hq => ?_, fun q hq z hz => ?_⟩
        · have := h.flat; rw [List.flatten_append] at this ⊢; simp at this ⊢; rw [← this]; simp
        · rcases List.mem_append.1 hq with h1 | h1
          · exact h.each q (List.mem_append.2 (.inl h1))
          · rw [List.mem_singleton] at h1; subst h1
            refine ⟨by simp, ?_⟩
            simp only [List.length_append, List.length_singleton]; omega
        · rcases List.mem_append.1 hq with h1 | h1
          · exact h.side q (List.mem_append.2 (.inl h1)) z hz
          · rw [List.mem_singleton] at h1; subst h1
            show _ = sideP (plc l y)
            rcases List.mem_append.1 hz with h2 | h2
            · exact hside z h2
            · rw [List.mem_singleton] at h2; subst h2; exact hn1.2
theorem rGo_snoc (heads : Int) (o : List Int) (x : Int) : rGo b l heads (o ++ [x]) = rStep b l heads (rGo b l heads o) x := by unfold rGo; rw [List.foldl_append]; rfl
theorem rGo_inv {heads : Int} (hh : 1 ≤ heads) (o : List Int) : ∀ k, k ≤ o.length → RInv l heads (o.take k) (rGo b l heads (o.take k)).1
  | 0, _ => by rw [List.take_zero]; exact ⟨rfl, fun r hr => (by cases hr), fun r hr => (by cases hr)⟩
  | k + 1, hk => by
    have ih := rGo_inv hh o k (by omega)
    rw [List.take_succ_eq_append_getElem (by omega), rGo_snoc]
    exact ih.step hh (tall := (rGo b l heads (o.take k)).2)
theorem flat_len {heads : Int} {o : List Int} {acc : List (List Int)} (h : RInv l heads o acc) : acc.length ≤ o.length := by
  have : ∀ acc : List (List Int), (∀ r ∈ acc, 0 < r.length) → acc.length ≤ acc.flatten.length := by
    intro acc
    induction acc with
    | nil => intro _; simp
    | cons r t ih =>
      intro hr
      have h1 := hr r List.mem_cons_self
      have h2 := ih (fun q hq => hr q (List.mem_cons_of_mem _ hq))
      simp only [List.flatten_cons, List.length_append, List.length_cons]; omega
  have h2 := this acc (fun r hr => (h.each r hr).1)
  rw [h.flat] at h2; exact h2
def roundsFault (b : List Body) (l : List Place) (order : List Int) (heads : Int) : Int :=
  if placesFault b l ≠ 0 then placesFault b l else if decide (IsP l.length order ∧ order.length = l.length) = false then 3 else if within heads 1 20 = false then 1 else 0
def roundsOf (b : List Body) (l : List Place) (order : List Int) (heads : Int) : List (List Int) := if roundsFault b l order heads ≠ 0 then [] else (rGo b l heads order).1
theorem not_t {c : Bool} (h : (!c) = true) : c = false := by cases c <;> simp_all
theorem not_f {c : Bool} (h : (!c) = false) : c = true := by cases c <;> simp_all
theorem roundsOf_bad {order : List Int} {heads : Int} (h : roundsFault b l order heads ≠ 0) : roundsOf b l order heads = [] := by unfold roundsOf; rw [if_pos h]
theorem roundsOf_ok {order : List Int} {heads : Int} (h : roundsFault b l order heads = 0) : roundsOf b l order heads = (rGo b l heads order).1 := by unfold roundsOf; rw [if_neg (by simp [h])]
theorem rounds_len {I : List (List Int)} {r : List Int} : w64 (((I ++ [r]).length : Int) - 1) = (I.length : Int) ∨ 900000 < I.length := by
  by_cases h : I.length ≤ 900000
  · left; rw [show (I ++ [r]).length = I.length + 1 by simp, w64_sub1 (by omega) (by omega), show I.length + 1 - 1 = I.length by omega]
  · right; omega
theorem row_len {heads : Int} {o : List Int} {acc : List (List Int)} (h : RInv l heads o acc) {r : List Int} (hr : r ∈ acc) : r.length ≤ o.length := by
  rw [← h.flat]
  have : ∀ acc : List (List Int), r ∈ acc → r.length ≤ acc.flatten.length := by
    intro acc
    induction acc with
    | nil => intro h; cases h
    | cons q t ih =>
      intro h
      simp only [List.flatten_cons, List.length_append]
      rcases List.mem_cons.1 h with h1 | h1
      · subst h1; omega
      · have := ih h1; omega
  exact this acc hr
theorem tall_pos (hp : PlacesOk b l) {p : Place} (hpl : p ∈ l) : 1 ≤ tallB b p := by
  have h1 := (hp.each p hpl).2.1
  obtain ⟨x, hx⟩ := Option.isSome_iff_exists.1 h1
  unfold tallB
  rw [hx]
  have hm : x ∈ b := List.mem_of_find?_eq_some hx
  have := (hp.bodies.each x hm).2.2.2.1
  unfold within at this
  simp at this ⊢; omega
theorem S_mount_Rounds (hb : Fits.fits b) (hlf : Fits.fits l) {order : List Int} {heads : Int} {Q : List (List Int) → Int → Prop} (h : Q (roundsOf b l order heads) (roundsFault b l order heads)) : M_mount_Rounds b l order heads Q := by
  unfold M_mount_Rounds
  refine S_mount_CheckPlaces hb hlf (cnd_of (fun e => ?_) (fun e => ?_))
  · have e' : placesFault b l ≠ 0 := by simpa using e
    have hF : roundsFault b l order heads = placesFault b l := by unfold roundsFault; rw [if_pos e']
    rw [roundsOf_bad (by rw [hF]; exact e'), hF] at h; exact h
  have e' : placesFault b l = 0 := by simpa using e
  have hp := places_ok e'
  have hll := hp.len
  refine S_mount_isOrder (by omega) (cnd_of (fun e2 => ?_) (fun e2 => ?_))
  · have e3 := not_t e2
    have hF : roundsFault b l order heads = 3 := by unfold roundsFault; rw [if_neg (by simp [e']), if_pos e3]
    rw [roundsOf_bad (by rw [hF]; decide), hF] at h; exact h
  have e3 := not_f e2
  obtain ⟨⟨hnd, hin⟩, hol⟩ := of_decide_eq_true e3
  refine cnd_of (fun e4 => ?_) (fun e4 => ?_)
  · have e5 := not_t e4
    have hF : roundsFault b l order heads = 1 := by unfold roundsFault; rw [if_neg (by simp [e']), if_neg (by rw [e3]; simp), if_pos e5]
    rw [roundsOf_bad (by rw [hF]; decide), hF] at h; exact h
  have e5 := not_f e4
  have hF : roundsFault b l order heads = 0 := by unfold roundsFault; rw [if_neg (by simp [e']), if_neg (by rw [e3]; simp), if_neg (by rw [e5]; simp)]
  rw [roundsOf_ok hF, hF] at h
  have hh : 1 ≤ heads ∧ heads ≤ 20 := by unfold within at e5; simpa using e5
  have hnum : ∀ x ∈ order, Num l x := fun x hx => hin x hx
  refine forIn0 (fun k (s : List (List Int) × Int) => s = rGo b l heads (order.take k)) rfl (fun k x s hx hI next hn => ?_) (fun s hI => ?_)
  · have hk := lt_of_get hx
    have hxN := hnum x (List.mem_of_getElem? hx)
    have hI0 := rGo_inv (b := b) (l := l) hh.1 order k (by omega)
    have htk : order.take (k + 1) = order.take k ++ [x] := by rw [List.take_add_one, hx]; rfl
    rw [htk, rGo_snoc] at hn
    rw [← hI] at hI0 hn
    replace hn := hn _ rfl
    obtain ⟨acc, tall⟩ := s
    simp only at hI0
    have hal := flat_len hI0
    have hkl : (order.take k).length = k := by rw [List.length_take]; omega
    show M_mount_Rounds_L1 b l order heads k x acc tall (fun l2 n2 => next (l2, n2))
    unfold M_mount_Rounds_L1
    refine ⟨hxN.1, _, plc_get hxN, S_mount_bodyOf hp.bodies ?_⟩
    show cnd ((k : Int) == 0) (M_mount_Rounds_k3 x acc tall _ ((bodyAt b (plc l x).Typ).getD noBody) true) _
    have htl : ((bodyAt b (plc l x).Typ).getD noBody).Tall = tallB b (plc l x) := rfl
    have htp := tall_pos hp (List.mem_of_getElem? (plc_get hxN))
    have new : next (acc ++ [[x]], tallB b (plc l x)) → M_mount_Rounds_k3 x acc tall (fun l2 n2 => next (l2, n2)) ((bodyAt b (plc l x).Typ).getD noBody) true := fun hq => by
      unfold M_mount_Rounds_k3
      simp only [cnd_true]
      refine ⟨room_of (by simp only [List.length_append, List.length_singleton]; omega) (by decide), ?_⟩
      have ew : w64 ((w64 ((acc.length : Int) - 1)) + 1) = (acc.length : Int) := by rw [w64_id (n := (acc.length : Int) - 1) (by omega) (by omega), w64_id] <;> omega
      rw [ew]
      unfold M_mount_Rounds_k2
      refine idx_nat (i := acc.length) (List.getElem?_concat_length) ?_
      refine ⟨room_of (by simp) (by decide), ?_⟩
      rw [htl, Int.toNat_natCast, show max 0 (tallB b (plc l x)) = tallB b (plc l x) by omega, List.set_append_right _ _ (Nat.le_refl _)]
      simpa using hq
    rcases List.eq_nil_or_concat acc with rfl | ⟨I, r, rfl⟩
    · have hk0 : k = 0 := by have := congrArg List.length hI0.flat; rw [hkl] at this; exact this.symm
      subst hk0
      show cnd true _ _
      simp only [cnd_true]
      exact new hn
    · simp only [List.concat_eq_append] at *
      have hrE := hI0.each r (by simp)
      have hrl := row_len hI0 (r := r) (by simp)
      have hk0 : 0 < k := by
        have := hI0.flat; have := congrArg List.length this; rw [hkl, List.flatten_append, List.length_append] at this; simp at this; omega
      have hIl : I.length ≤ 900000 := by simp only [List.length_append, List.length_singleton] at hal; omega
      have ew : w64 (((I ++ [r]).length : Int) - 1) = (I.length : Int) := by rcases rounds_len (I := I) (r := r) with h1 | h1 <;> omega
      rw [show ((k : Int) == 0) = false by simp; omega]
      simp only [cnd_false]
      rw [ew]
      rw [rStep_snoc] at hn
      have stay : newRound b l heads r tall x = false → M_mount_Rounds_k3 x (I ++ [r]) tall (fun l2 n2 => next (l2, n2)) ((bodyAt b (plc l x).Typ).getD noBody) false := fun hq => by
        rw [if_neg (by rw [hq]; simp)] at hn
        unfold M_mount_Rounds_k3
        simp only [cnd_false]
        rw [ew]
        unfold M_mount_Rounds_k2
        refine idx_nat (i := I.length) (List.getElem?_concat_length) ?_
        refine ⟨room_of (by simp only [List.length_append, List.length_singleton]; omega) (by decide), ?_⟩
        rw [htl, Int.toNat_natCast, List.set_append_right _ _ (Nat.le_refl _)]
        simpa using hn
      have go : newRound b l heads r tall x = true → M_mount_Rounds_k3 x (I ++ [r]) tall (fun l2 n2 => next (l2, n2)) ((bodyAt b (plc l x).Typ).getD noBody) true := fun hq => by
        rw [if_pos hq] at hn; exact new hn
      refine idx_nat (i := I.length) (List.getElem?_concat_length) ?_
      refine cnd_of (fun f1 => go ?_) (fun f1 => ?_)
      · unfold newRound; rw [decide_eq_true (show (r.length : Int) = heads by simpa using f1)]; rfl
      have f1' : decide ((r.length : Int) = heads) = false := decide_eq_false (by simpa using f1)
      rw [w64_sub1 (by omega) (by omega)]
      have hy : order[k - 1]? = some (order[k - 1]'(by omega)) := List.getElem?_eq_getElem _
      generalize order[k - 1]'(by omega) = y at hy
      have hyN := hnum y (List.mem_of_getElem? hy)
      have hyr : y ∈ r := by
        have h1 : (order.take k).getLast? = some y := by
          rw [List.getLast?_eq_getElem?, hkl, List.getElem?_take, if_pos (by omega)]; exact hy
        rw [← hI0.flat, List.flatten_append] at h1
        simp only [List.flatten_cons, List.flatten_nil, List.append_nil] at h1
        rcases List.eq_nil_or_concat r with hr0 | ⟨r0, z, hr0⟩
        · rw [hr0] at hrE; simp at hrE
        · rw [hr0, List.concat_eq_append, ← List.append_assoc, List.getLast?_concat] at h1
          injection h1 with h1
          rw [hr0, List.concat_eq_append, h1]; simp
      have hsd := hI0.side r (by simp) y hyr
      refine idx_nat hy ⟨hyN.1, _, plc_get hyN, S_mount_side (S_mount_side (cnd_of (fun f2 => go ?_) (fun f2 => ?_)))⟩
      · have : sideP (plc l x) ≠ sideP (plc l (r.headD 0)) := by rw [← hsd]; simpa using f2
        unfold newRound; rw [f1', decide_eq_true this]; rfl
      · have f2' : decide (sideP (plc l x) ≠ sideP (plc l (r.headD 0))) = false := decide_eq_false (by rw [← hsd]; simpa using f2)
        rw [htl]
        cases hc : decide (tallB b (plc l x) < tall)
        · exact stay (by unfold newRound; rw [f1', f2', hc]; rfl)
        · exact go (by unfold newRound; rw [f1', f2', hc]; rfl)
  · rw [List.take_length] at hI
    subst hI
    exact h
theorem S_ref10_Rounds (hb : Fits.fits b) (hs : ∀ p ∈ l, p.Part.length < 4294967281) {order : List Int} {heads : Int} {Q : List (List Int) → Int → Prop} (h : Q (roundsOf b l order heads) (roundsFault b l order heads)) : M_ref10_Rounds b l order heads Q := by
  unfold M_ref10_Rounds
  refine S_ref10_CheckPlaces hb hs (cnd_of (fun e => ?_) (fun e => ?_))
  · have e' : placesFault b l ≠ 0 := by simpa using e
    have hF : roundsFault b l order heads = placesFault b l := by unfold roundsFault; rw [if_pos e']
    rw [roundsOf_bad (by rw [hF]; exact e'), hF] at h; exact h
  have e' : placesFault b l = 0 := by simpa using e
  have hp := places_ok e'
  have hll := hp.len
  refine S_ref10_IsOrder (by omega) (cnd_of (fun e2 => ?_) (fun e2 => ?_))
  · have e3 := not_t e2
    have hF : roundsFault b l order heads = 3 := by unfold roundsFault; rw [if_neg (by simp [e']), if_pos e3]
    rw [roundsOf_bad (by rw [hF]; decide), hF] at h; exact h
  have e3 := not_f e2
  obtain ⟨⟨hnd, hin⟩, hol⟩ := of_decide_eq_true e3
  refine cnd_of (fun e4 => ?_) (fun e4 => ?_)
  · have e5 := not_t e4
    have hF : roundsFault b l order heads = 1 := by unfold roundsFault; rw [if_neg (by simp [e']), if_neg (by rw [e3]; simp), if_pos e5]
    rw [roundsOf_bad (by rw [hF]; decide), hF] at h; exact h
  have e5 := not_f e4
  have hF : roundsFault b l order heads = 0 := by unfold roundsFault; rw [if_neg (by simp [e']), if_neg (by rw [e3]; simp), if_neg (by rw [e5]; simp)]
  rw [roundsOf_ok hF, hF] at h
  have hh : 1 ≤ heads ∧ heads ≤ 20 := by unfold within at e5; simpa using e5
  have hnum : ∀ x ∈ order, Num l x := fun x hx => hin x hx
  refine forIn0 (fun k (s : List (List Int) × Int) => s = rGo b l heads (order.take k)) rfl (fun k x s hx hI next hn => ?_) (fun s hI => ?_)
  · have hk := lt_of_get hx
    have hxN := hnum x (List.mem_of_getElem? hx)
    have hI0 := rGo_inv (b := b) (l := l) hh.1 order k (by omega)
    have htk : order.take (k + 1) = order.take k ++ [x] := by rw [List.take_add_one, hx]; rfl
    rw [htk, rGo_snoc] at hn
    rw [← hI] at hI0 hn
    replace hn := hn _ rfl
    obtain ⟨acc, tall⟩ := s
    simp only at hI0
    have hal := flat_len hI0
    have hkl : (order.take k).length = k := by rw [List.length_take]; omega
    have hpx := hp.each _ (List.mem_of_getElem? (plc_get hxN))
    show M_ref10_Rounds_L1 b l heads k x acc tall (fun l2 n2 => next (l2, n2))
    unfold M_ref10_Rounds_L1
    refine ⟨hxN.1, _, plc_get hxN, S_ref10_body hp.bodies hpx.2.1 ?_⟩
    have htl : ((bodyAt b (plc l x).Typ).getD noBody).Tall = tallB b (plc l x) := rfl
    rw [htl]
    have new : next (acc ++ [[x]], tallB b (plc l x)) → M_ref10_Rounds_k2 x acc tall (fun l2 n2 => next (l2, n2)) ((bodyAt b (plc l x).Typ).getD noBody) true := fun hq => by
      unfold M_ref10_Rounds_k2
      simp only [cnd_true]
      exact ⟨room_of (by simp only [List.length_append, List.length_singleton]; omega) (by decide), hq⟩
    rcases List.eq_nil_or_concat acc with rfl | ⟨I, r, rfl⟩
    · rw [show ((([] : List (List Int)).length : Int) == 0) = true from rfl]
      simp only [cnd_true]
      exact new hn
    · simp only [List.concat_eq_append] at *
      have hrE := hI0.each r (by simp)
      have hrl := row_len hI0 (r := r) (by simp)
      have hIl : I.length ≤ 900000 := by simp only [List.length_append, List.length_singleton] at hal; omega
      have ew : w64 (((I ++ [r]).length : Int) - 1) = (I.length : Int) := by rcases rounds_len (I := I) (r := r) with h1 | h1 <;> omega
      rw [show (((I ++ [r]).length : Int) == 0) = false by simp; omega]
      simp only [cnd_false]
      rw [ew]
      rw [rStep_snoc] at hn
      have stay : newRound b l heads r tall x = false → M_ref10_Rounds_k2 x (I ++ [r]) tall (fun l2 n2 => next (l2, n2)) ((bodyAt b (plc l x).Typ).getD noBody) false := fun hq => by
        rw [if_neg (by rw [hq]; simp)] at hn
        unfold M_ref10_Rounds_k2
        simp only [cnd_false]
        rw [ew]
        refine idx_nat (i := I.length) (List.getElem?_concat_length) ?_
        refine ⟨room_of (by simp only [List.length_append, List.length_singleton]; omega) (by decide), ?_⟩
        rw [htl, Int.toNat_natCast, List.set_append_right _ _ (Nat.le_refl _)]
        simpa using hn
      have go : newRound b l heads r tall x = true → M_ref10_Rounds_k2 x (I ++ [r]) tall (fun l2 n2 => next (l2, n2)) ((bodyAt b (plc l x).Typ).getD noBody) true := fun hq => by
        rw [if_pos hq] at hn; exact new hn
      refine idx_nat (i := I.length) (List.getElem?_concat_length) ?_
      refine cnd_of (fun f1 => go ?_) (fun f1 => ?_)
      · unfold newRound; rw [decide_eq_true (show (r.length : Int) = heads by simpa using f1)]; rfl
      have f1' : decide ((r.length : Int) = heads) = false := decide_eq_false (by simpa using f1)
      cases r with
      | nil => simp at hrE
      | cons y t =>
        have hyN : Num l y := hnum y (by
          have : y ∈ order.take k := by rw [← hI0.flat]; simp
          exact List.mem_of_mem_take this)
        refine idx_nat (i := 0) rfl ⟨hyN.1, _, plc_get hyN, ?_⟩
        obtain ⟨s1, _⟩ := side_iff (plc l y) (plc l x)
        refine cnd_of (fun f2 => go ?_) (fun f2 => ?_)
        · have : sideP (plc l x) ≠ sideP (plc l ((y :: t).headD 0)) := fun hh => by
            have := s1.2 hh.symm
            simp [this] at f2
          unfold newRound; rw [f1', decide_eq_true this]; rfl
        · have f2' : decide (sideP (plc l x) ≠ sideP (plc l ((y :: t).headD 0))) = false := decide_eq_false (fun hh => hh (s1.1 (by simpa using f2)).symm)
          cases hc : decide (tallB b (plc l x) < tall)
          · exact stay (by unfold newRound; rw [f1', f2', hc]; rfl)
          · exact go (by unfold newRound; rw [f1', f2', hc]; rfl)
  · rw [List.take_length] at hI
    subst hI
    exact h
end
end Go.Proofs.YtcmlcgjjkccaeaaDoor

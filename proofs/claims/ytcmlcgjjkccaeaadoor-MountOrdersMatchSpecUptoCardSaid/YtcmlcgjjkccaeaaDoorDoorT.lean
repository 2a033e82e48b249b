/- Chapter texts of ours, as far as the claim needs them. -/
import Derived.Test.YtcmlcgjjkccaeaaDoorDoorS
import Derived.Test.YtcmlcgjjkccaeaaDoorDoorN
namespace Go.Proofs.YtcmlcgjjkccaeaaDoor
open Go Go.RowKit
set_option linter.unusedVariables false
set_option linter.unusedSimpArgs false
def IsP (n : Nat) (o : List Int) : Prop := o.Nodup ∧ ∀ x ∈ o, 0 ≤ x ∧ x < n
instance (n : Nat) (o : List Int) : Decidable (IsP n o) := by unfold IsP; infer_instance
theorem isP_take {n : Nat} {l : List Int} (h : IsP n l) (k : Nat) : IsP n (l.take k) := ⟨List.Nodup.sublist (List.take_sublist k l) h.1, fun x hx => h.2 x (List.mem_of_mem_take hx)⟩
theorem S_mount_isOrder {l : List Int} {n : Nat} (hn : n ≤ 100000) {Q : Bool → Prop} (h : Q (decide (IsP n l ∧ l.length = n))) : M_mount_isOrder l (n : Int) Q := by
  unfold M_mount_isOrder
  refine ⟨⟨Int.natCast_nonneg _, by omega⟩, ?_⟩
  refine forIn0 (fun k s => s.length = n ∧ IsP n (l.take k) ∧ ∀ i, i < n → s.getD i false = decide ((i : Int) ∈ l.take k)) ⟨by simp, ⟨by simp, fun x hx => by simp at hx⟩, fun i hi => by simp [List.getD_eq_getElem?_getD, List.getElem?_replicate]; split <;> rfl⟩ (fun k x s hx hI next hnx => ?_) (fun s hI => ?_)
  · obtain ⟨i1, i2, i3⟩ := hI
    have hk := lt_of_get hx
    have et : l.take (k + 1) = l.take k ++ [x] := by rw [List.take_add_one, hx]; rfl
    have hw : within x 0 (w64 ((n : Int) - 1)) = decide (0 ≤ x ∧ x < n) := by
      rw [w64_id (by omega) (by omega)]; unfold within
      rw [Bool.eq_iff_iff]; simp; omega
    unfold M_mount_isOrder_L1 M_mount_isOrder_k2
    rw [hw]
    refine cnd_of (fun e => cnd_of (fun _ => ?_) (fun e => by cases e)) (fun e => ?_)
    · have : decide (IsP n l ∧ l.length = n) = false := by
        refine decide_eq_false (fun hh => ?_)
        have := hh.1.2 x (List.mem_of_getElem? hx)
        simp at e; omega
      rw [this] at h; exact h
    · have hx2 : 0 ≤ x ∧ x < n := by simpa using e
      have hxs : x.toNat < s.length := by omega
      refine ⟨hx2.1, s[x.toNat], List.getElem?_eq_getElem hxs, ?_⟩
      have h3 := i3 x.toNat (by omega)
      rw [List.getD_eq_getElem?_getD, List.getElem?_eq_getElem hxs] at h3
      have hxx : ((x.toNat : Nat) : Int) = x := by omega
      rw [hxx] at h3
      simp only [Option.getD_some] at h3
      refine cnd_of (fun e2 => ?_) (fun e2 => ⟨hx2.1, s[x.toNat], List.getElem?_eq_getElem hxs, hnx _ ⟨by simp [i1], ?_, fun i hi => ?_⟩⟩)
      · have : decide (IsP n l ∧ l.length = n) = false := by
          refine decide_eq_false (fun hh => ?_)
          have := (isP_take hh.1 (k + 1)).1
          rw [et, List.nodup_append] at this
          rw [e2] at h3
          exact this.2.2 x (by simpa using h3.symm) x (by simp) rfl
        rw [this] at h; exact h
      · rw [et]
        rw [e2] at h3
        have hnm : x ∉ l.take k := by simpa using h3.symm
        refine ⟨List.nodup_append.2 ⟨i2.1, by simp, fun a ha b hb => ?_⟩, fun a ha => ?_⟩
        · simp at hb; subst hb; intro hab; subst hab; exact hnm ha
        · rcases List.mem_append.1 ha with ha | ha
          · exact i2.2 a ha
          · simp at ha; subst ha; exact hx2
      · rw [et, List.getD_eq_getElem?_getD, List.getElem?_set]
        have h4 := i3 i hi
        rw [List.getD_eq_getElem?_getD] at h4
        by_cases hxi : x.toNat = i
        · subst hxi; rw [if_pos rfl, if_pos hxs, hxx]; simp
        · rw [if_neg hxi, h4]
          have : ¬ ((i : Int) = x) := by omega
          simp [this]
  · obtain ⟨i1, i2, i3⟩ := hI
    rw [List.take_length] at i2
    have : ((l.length : Int) == (n : Int)) = decide (IsP n l ∧ l.length = n) := by
      rw [Bool.eq_iff_iff]; simp [i2]; omega
    show Q _
    rw [this]; exact h
theorem S_ref10_IsOrder {l : List Int} {n : Nat} (hn : n ≤ 100000) {Q : Bool → Prop} (h : Q (decide (IsP n l ∧ l.length = n))) : M_ref10_IsOrder l (n : Int) Q := S_mount_isOrder hn h
section
variable {b : List Body} {l : List Place}
theorem ord_isP {o : List Int} (h : o.Perm ((List.range l.length).map (fun n : Nat => (n : Int)))) : IsP l.length o ∧ o.length = l.length := by
  refine ⟨⟨h.nodup_iff.2 ?_, fun x hx => ?_⟩, by rw [h.length_eq]; simp⟩
  · exact List.pairwise_map.2 (List.nodup_range.imp (fun {a b} hne e => hne (by omega)))
  · have := num_range (l := l) x (h.mem_iff.1 hx)
    exact ⟨this.1, this.2⟩
theorem S_ref10_body (hb : BodiesOk b) {name : Str} (hs : (bodyAt b name).isSome = true) {Q : Body → Prop} (h : Q ((bodyAt b name).getD noBody)) : M_ref10_bodyOf b name fun y => idx b y Q := by
  refine S_ref10_bodyOf ?_
  have := bodyIx_at b name
  split at this
  · rename_i i hi
    obtain ⟨x, h1, h2⟩ := this
    rw [h2] at h
    exact idx_nat h1 h
  · rw [this] at hs; cases hs
theorem side_iff (p q : Place) : ((p.Below == q.Below) = true ↔ sideP p = sideP q) ∧ (p.Below ≠ q.Below → (q.Below = true ↔ sideP p < sideP q)) := by
  unfold sideP
  cases p.Below <;> cases q.Below <;> simp
theorem S_ref10_before (hb : BodiesOk b) {p q : Place} (hp : (bodyAt b p.Typ).isSome = true) (hq : (bodyAt b q.Typ).isSome = true) {Q : Bool → Prop} (h : Q (ltP b p q)) : M_ref10_before b p q Q := by
  unfold M_ref10_before
  refine S_ref10_body hb hp (S_ref10_body hb hq ?_)
  have key : ∀ c : Bool, (c = true ↔ ltP b p q = true) → Q c := fun c hc => by
    have : c = ltP b p q := Bool.eq_iff_iff.2 hc
    rw [this]; exact h
  obtain ⟨s1, s2⟩ := side_iff p q
  have ht : ((bodyAt b p.Typ).getD noBody).Tall = tallB b p := rfl
  have ht2 : ((bodyAt b q.Typ).getD noBody).Tall = tallB b q := rfl
  have hn : ((bodyAt b p.Typ).getD noBody).Nozzle = nozB b p := rfl
  have hn2 : ((bodyAt b q.Typ).getD noBody).Nozzle = nozB b q := rfl
  rw [ht, ht2, hn, hn2]
  refine cnd_of (fun e => ?_) (fun e => cnd_of (fun e2 => ?_) (fun e2 => cnd_of (fun e3 => ?_) (fun e3 => ?_)))
  · have hne : p.Below ≠ q.Below := by simpa using e
    refine key _ ?_
    rw [ltP_iff, s2 hne]
    have : sideP p ≠ sideP q := fun h => hne (by simpa using s1.2 h)
    constructor
    · exact fun h => .inl h
    · rintro (h | ⟨h, _⟩)
      · exact h
      · exact absurd h this
  · have hs : sideP p = sideP q := s1.1 (by simpa using e)
    have htn : tallB b p ≠ tallB b q := by simpa using e2
    refine key _ ?_
    rw [ltP_iff, decide_eq_true_iff]
    constructor
    · exact fun h => .inr ⟨hs, .inl h⟩
    · rintro (h | ⟨_, h | ⟨h, _⟩⟩)
      · omega
      · exact h
      · exact absurd h htn
  · have hs : sideP p = sideP q := s1.1 (by simpa using e)
    have hte : tallB b p = tallB b q := by simpa using e2
    have hnn : nozB b p ≠ nozB b q := by simpa using e3
    refine key _ ?_
    rw [ltP_iff]
    constructor
    · exact fun h => .inr ⟨hs, .inr ⟨hte, .inl h⟩⟩
    · rintro (h | ⟨_, h | ⟨_, h | ⟨h, _⟩⟩⟩)
      · omega
      · omega
      · exact h
      · exact absurd h hnn
  · have hs : sideP p = sideP q := s1.1 (by simpa using e)
    have hte : tallB b p = tallB b q := by simpa using e2
    have hne : nozB b p = nozB b q := by simpa using e3
    refine key _ ?_
    rw [ltP_iff]
    constructor
    · exact fun h => .inr ⟨hs, .inr ⟨hte, .inr ⟨hne, h⟩⟩⟩
    · rintro (h | ⟨_, h | ⟨_, h | ⟨_, h⟩⟩⟩)
      · omega
      · omega
      · rw [hne, strLt_irrefl] at h; cases h
      · exact h
theorem S_ref10_Ordered (hb : Fits.fits b) (hs : ∀ p ∈ l, p.Part.length < 4294967281) {Q : List Int → Int → Prop} (h1 : placesFault b l ≠ 0 → Q [] (placesFault b l)) (h0 : placesFault b l = 0 → ∀ o, OrdOk b l o → Q o 0) : M_ref10_Ordered b l Q := by
  unfold M_ref10_Ordered
  refine S_ref10_CheckPlaces hb hs (cnd_of (fun e => h1 (by simpa using e)) (fun e => ?_))
  have e' : placesFault b l = 0 := by simpa using e
  have hp := places_ok e'
  have hl := hp.len
  have hlo := lo_ltI b l (Num l)
  refine forIn0 (fun k (s : List Int) => s.Perm ((List.range k).map (fun n : Nat => (n : Int))) ∧ Srt (ltI b l) s) ⟨List.Perm.refl _, List.Pairwise.nil⟩ (fun k x s hx hI next hn => ?_) (fun s hI => h0 e' s hI)
  obtain ⟨hI1, hI2⟩ := hI
  have hk := lt_of_get hx
  have hsl : s.length = k := by rw [hI1.length_eq]; simp
  have hkN : Num l (k : Int) := ⟨Int.natCast_nonneg _, by omega⟩
  have hsN : ∀ y ∈ s, Num l y := fun y hy => by
    obtain ⟨n, hn, rfl⟩ := List.mem_map.1 (hI1.mem_iff.1 hy)
    have := List.mem_range.1 hn
    exact ⟨Int.natCast_nonneg _, by omega⟩
  have hxp : plc l (k : Int) = x := by
    have := plc_get hkN
    rw [Int.toNat_natCast, hx] at this; injection this with this; exact this.symm
  unfold M_ref10_Ordered_L1
  refine lp_measN (fun m (n2 : Int) => ∃ A B : List Int, s = A ++ B ∧ n2 = (A.length : Int) ∧ (∀ y ∈ B, ltI b l (k : Int) y = true) ∧ m = A.length) (n := s.length) ⟨s, [], by simp, rfl, fun y hy => (by cases hy), rfl⟩ ?_
  rintro m n2 F ⟨A, B, hAB, rfl, hB, hm⟩ hF
  have hlen : s.length = A.length + B.length := by rw [hAB]; simp
  unfold M_ref10_Ordered_L2
  have ins : (∀ y ∈ A, ltI b l (k : Int) y = false) → M_ref10_Ordered_k3 k s next (A.length : Int) (fun n2 => F n2) false := fun hA => by
    unfold M_ref10_Ordered_k3
    simp only [cnd_false]
    unfold M_insert_int
    refine ⟨⟨Int.natCast_nonneg _, by omega, by simp, room_of (by simp only [List.length_singleton]; omega) (by decide)⟩, ?_⟩
    rw [Int.toNat_natCast]
    have e1 : s.take A.length = A := by rw [hAB]; simp
    have e2 : s.drop A.length = B := by rw [hAB]; simp
    rw [e1, e2]
    refine hn _ ⟨?_, ?_⟩
    · rw [List.range_succ, List.map_append]
      refine List.Perm.trans ?_ (hI1.append_right _)
      rw [hAB, List.append_assoc, List.append_assoc]
      exact List.Perm.append_left A List.perm_append_comm
    · have hs2 := Srt.append.1 (hAB ▸ hI2)
      rw [List.append_assoc]
      refine Srt.append.2 ⟨hs2.1, List.pairwise_cons.2 ⟨fun y hy => hlo.asy _ y hkN (hsN y (by rw [hAB]; exact List.mem_append.2 (.inr hy))) (hB y hy), hs2.2.1⟩, fun y hy z hz => ?_⟩
      rcases List.mem_cons.1 hz with hz | hz
      · subst hz; exact hA y hy
      · exact hs2.2.2 y hy z hz
  rcases List.eq_nil_or_concat A with rfl | ⟨D, y, rfl⟩
  · rw [decide_eq_false (show ¬ ((([] : List Int).length : Int) > 0) by simp)]
    simp only [cnd_false]
    exact ins (fun y hy => by cases hy)
  · simp only [List.concat_eq_append] at *
    have hDl : (D ++ [y]).length = D.length + 1 := by simp
    rw [hDl] at hm hlen ⊢
    rw [decide_eq_true (show (((D.length + 1 : Nat) : Int) > 0) by omega)]
    simp only [cnd_true]
    rw [w64_sub1 (by omega) (by omega), show D.length + 1 - 1 = D.length by omega]
    have hyN := hsN y (by rw [hAB]; simp)
    refine idx_at (P := D) (v := y) (R := B) (by rw [hAB]; simp) rfl ⟨hyN.1, _, plc_get hyN, ?_⟩
    have hpy := hp.each (plc l y) (List.mem_of_getElem? (plc_get hyN))
    have hpx := hp.each x (List.mem_of_getElem? hx)
    refine S_ref10_before hp.bodies hpx.2.1 hpy.2.1 ?_
    have ec : ltP b x (plc l y) = ltI b l (k : Int) y := by unfold ltI; rw [hxp]
    rw [ec]
    cases hc : ltI b l (k : Int) y
    · rw [hDl] at ins
      refine ins (fun z hz => ?_)
      have hs2 := Srt.append.1 (hAB ▸ hI2)
      have hzN := hsN z (by rw [hAB]; exact List.mem_append.2 (.inl hz))
      refine hlo.tra z y (k : Int) hzN hyN hkN ?_ hc
      rcases List.mem_append.1 hz with h3 | h3
      · exact (Srt.append.1 hs2.1).2.2 z h3 y (by simp)
      · simp at h3; subst h3; exact hlo.irr _ hyN
    · unfold M_ref10_Ordered_k3
      simp only [cnd_true]
      rw [w64_sub1 (by omega) (by omega), show D.length + 1 - 1 = D.length by omega]
      refine hF D.length _ (by omega) ⟨D, y :: B, by rw [hAB]; simp, rfl, fun z hz => ?_, rfl⟩
      rcases List.mem_cons.1 hz with hz | hz
      · subst hz; exact hc
      · exact hB z hz
theorem S_equal_int {xs ys : List Int} {Q : Bool → Prop} (h : Q (decide (xs = ys))) : M_equal_int xs ys Q := by
  unfold M_equal_int
  refine cnd_of (fun e => ?_) (fun e => ?_)
  · have : xs ≠ ys := fun hh => by subst hh; simp at e
    rw [decide_eq_false this] at h; exact h
  · have hl : xs.length = ys.length := by have : (xs.length : Int) = (ys.length : Int) := by simpa using e
                                          omega
    refine forIn0 (fun k (_ : Unit) => xs.take k = ys.take k) (by simp) (fun k x s hx hI next hn => ?_) (fun s hI => ?_)
    · have hk := lt_of_get hx
      have hy : ys[k]? = some (ys[k]'(by omega)) := List.getElem?_eq_getElem _
      unfold M_equal_int_L1
      refine idx_nat hy (cnd_of (fun e2 => ?_) (fun e2 => hn _ ?_))
      · have : xs ≠ ys := fun hh => by
          subst hh; rw [hx] at hy; injection hy with hy
          simp [← hy] at e2
        rw [decide_eq_false this] at h; exact h
      · have e3 : x = ys[k]'(by omega) := by simpa using e2
        rw [List.take_add_one, List.take_add_one, hI, hx, hy, e3]
    · have : xs = ys := by rw [List.take_length, hl, List.take_length] at hI; exact hI
      rw [decide_eq_true this] at h; exact h
end
end Go.Proofs.YtcmlcgjjkccaeaaDoor

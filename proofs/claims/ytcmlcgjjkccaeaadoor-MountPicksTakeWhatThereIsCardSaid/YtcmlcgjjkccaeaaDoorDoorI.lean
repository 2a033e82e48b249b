/- Chapter 10: picks take what there is. -/
import Derived.Test.YtcmlcgjjkccaeaaDoorDoorH
namespace Go.Proofs.YtcmlcgjjkccaeaaDoor
open Go Go.RowKit
set_option linter.unusedVariables false

theorem slot_lt {r : List Reel} (h : ReelsOk r) : ∀ (d i : Nat) x y, r[i]? = some x → r[i + d + 1]? = some y → x.Slot < y.Slot
  | 0, i, x, y, hx, hy => h.rise i x y hx hy
  | d + 1, i, x, y, hx, hy => by
    have hlt := lt_of_get hy
    have hm : r[i + d + 1]? = some (r[i + d + 1]'(by omega)) := List.getElem?_eq_getElem (by omega)
    have h1 := slot_lt h d i x _ hx hm
    have h2 := h.rise (i + d + 1) _ y hm (by rw [show i + d + 1 + 1 = i + (d + 1) + 1 by omega]; exact hy)
    omega
theorem slot_inj {r : List Reel} (h : ReelsOk r) {i k : Nat} {x y : Reel} (hx : r[i]? = some x) (hy : r[k]? = some y) (he : x.Slot = y.Slot) : i = k := by
  rcases Nat.lt_trichotomy i k with hlt | heq | hgt
  · have := slot_lt h (k - i - 1) i x y hx (by rw [show i + (k - i - 1) + 1 = k by omega]; exact hy)
    omega
  · exact heq
  · have := slot_lt h (i - k - 1) k y x hy (by rw [show k + (i - k - 1) + 1 = i by omega]; exact hx)
    omega
def cntOf (ps : List Pick) (y : Reel) : Int := ((ps.countP (fun p => p.Slot == y.Slot) : Nat) : Int)
theorem cntOf_add (ps : List Pick) (p : Pick) (y : Reel) : cntOf (ps ++ [p]) y = cntOf ps y + (if p.Slot = y.Slot then 1 else 0) := by
  unfold cntOf
  rw [List.countP_append]
  by_cases h : p.Slot = y.Slot <;> simp [h]
structure Good (l : List Place) (r : List Reel) (c : Nat) (st : List Pick × List Reel) : Prop where
  len : st.1.length = c
  board : ∀ (i : Nat) p, st.1[i]? = some p → p.Board = ((i / l.length + 1 : Nat) : Int) ∧ ∃ x, l[i % l.length]? = some x ∧ p.Part = x.Part
  rlen : st.2.length = r.length
  reel : ∀ (k : Nat) y, r[k]? = some y → ∃ z, st.2[k]? = some z ∧ z.Slot = y.Slot ∧ z.Typ = y.Typ ∧ 0 ≤ z.Left ∧ z.Left + cntOf st.1 y = y.Left
  slot : ∀ p ∈ st.1, ∀ y ∈ r, y.Slot = p.Slot → y.Typ = p.Typ
  none : ∀ p ∈ st.1, p.Slot = 0 → ∀ z ∈ st.2, z.Typ = p.Typ → z.Left ≤ 0
theorem pickOf_none {r : List Reel} {s : List Instead} {name : Str} (h : pickOf r s name = -1) : ∀ x ∈ r, x.Typ = name → x.Left ≤ 0 := by
  rcases reelIx_cases r name with h1 | ⟨i, x, h1, _⟩
  · exact h1.2
  · have h0 : pickTo r s name 0 = reelIx r name := rfl
    have := pickTo_stay (r := r) (s := s) (name := name) (k := 0) (by rw [h0, h1]; omega) s.length (by omega)
    rw [Nat.zero_add, pickTo_all, h, h0, h1] at this
    omega
theorem good_step {l : List Place} {r : List Reel} (hr : ReelsOk r) {s : List Instead} {m j : Nat} {x : Place} {st : List Pick × List Reel} (hx : l[j]? = some x) (h : Good l r (m * l.length + j) st) : Good l r (m * l.length + j + 1) (pickStep s ((m + 1 : Nat) : Int) st x) := by
  obtain ⟨ps, rs⟩ := st
  have hj := lt_of_get hx
  have hlen : ps.length = m * l.length + j := h.len
  have hdiv : (m * l.length + j) / l.length = m := by
    rw [Nat.mul_comm, Nat.mul_add_div (by omega), Nat.div_eq_of_lt hj, Nat.add_zero]
  have hmod : (m * l.length + j) % l.length = j := by
    rw [Nat.mul_comm, Nat.mul_add_mod, Nat.mod_eq_of_lt hj]
  have hboard : ∀ p : Pick, p.Board = ((m + 1 : Nat) : Int) → p.Part = x.Part → ∀ (i : Nat) q, (ps ++ [p])[i]? = some q → q.Board = ((i / l.length + 1 : Nat) : Int) ∧ ∃ x, l[i % l.length]? = some x ∧ q.Part = x.Part := by
    intro p hb hp i q hq
    rcases Nat.lt_or_ge i ps.length with hlt | hge
    · rw [List.getElem?_append_left hlt] at hq; exact h.board i q hq
    · rw [List.getElem?_append_right hge] at hq
      have h0 : i - ps.length = 0 := by have := lt_of_get hq; simp at this; omega
      rw [h0] at hq
      simp at hq
      subst hq
      have hi : i = m * l.length + j := by omega
      subst hi
      rw [hdiv, hmod]
      exact ⟨hb, x, hx, hp⟩
  unfold pickStep
  dsimp only
  rcases pickOf_cases rs s x.Typ with hp | ⟨i, z0, hp, hz0, hpos⟩
  · rw [hp, if_neg (by decide)]
    refine ⟨by simp [hlen], hboard _ rfl rfl, h.rlen, fun k y hy => ?_, fun p hpm y hy he => ?_, fun p hpm h0 z hz ht => ?_⟩
    · obtain ⟨z, h1, h2, h3, h4, h5⟩ := h.reel k y hy
      refine ⟨z, h1, h2, h3, h4, ?_⟩
      have hy1 := (hr.each y (List.mem_of_getElem? hy)).1.1
      rw [cntOf_add, if_neg (by show ¬ (0 : Int) = y.Slot; omega), Int.add_zero]
      exact h5
    · rcases List.mem_append.1 hpm with hm | hm
      · exact h.slot p hm y hy he
      · rw [List.mem_singleton.1 hm] at he ⊢
        have := (hr.each y hy).1.1
        have he' : y.Slot = 0 := he
        omega
    · rcases List.mem_append.1 hpm with hm | hm
      · exact h.none p hm h0 z hz ht
      · rw [List.mem_singleton.1 hm] at ht
        exact pickOf_none hp z hz ht
  · rw [hp, if_pos (by omega)]
    simp only [Int.toNat_natCast]
    rw [getD_of hz0]
    have hi : i < rs.length := lt_of_get hz0
    have hir : i < r.length := by have := h.rlen; simp only at this; omega
    have hyi : r[i]? = some r[i] := List.getElem?_eq_getElem hir
    obtain ⟨z0', g1, g2, g3, g4, g5⟩ := h.reel i _ hyi
    have : z0' = z0 := by rw [show (ps, rs).2 = rs from rfl] at g1; rw [g1] at hz0; injection hz0
    subst this
    have hyb := (hr.each _ (List.mem_of_getElem? hyi))
    have hcn : 0 ≤ cntOf (ps, rs).1 r[i] := by unfold cntOf; omega
    have hw : w64 (z0'.Left - 1) = z0'.Left - 1 := by rw [w64_id] <;> omega
    rw [hw]
    refine ⟨by simp [hlen], hboard _ rfl rfl, by rw [List.length_set]; exact h.rlen, fun k y hy => ?_, fun p hpm y hy he => ?_, fun p hpm h0 z hz ht => ?_⟩
    · by_cases hk : k = i
      · subst hk
        have : y = r[k] := by rw [hyi] at hy; injection hy with hy; exact hy.symm
        subst this
        refine ⟨⟨z0'.Slot, z0'.Typ, z0'.Left - 1⟩, List.getElem?_set_self hi, g2, g3, by show 0 ≤ z0'.Left - 1; omega, ?_⟩
        rw [cntOf_add, if_pos (show z0'.Slot = r[k].Slot from g2)]
        have g5' : z0'.Left + cntOf ps r[k] = r[k].Left := g5
        show z0'.Left - 1 + (cntOf ps r[k] + 1) = r[k].Left
        omega
      · obtain ⟨z, h1, h2, h3, h4, h5⟩ := h.reel k y hy
        refine ⟨z, by rw [List.getElem?_set_ne (by omega)]; exact h1, h2, h3, h4, ?_⟩
        have hne : ¬ z0'.Slot = y.Slot := fun e => hk (slot_inj hr hy hyi (by rw [← e, g2]))
        rw [cntOf_add, if_neg hne, Int.add_zero]
        exact h5
    · rcases List.mem_append.1 hpm with hm | hm
      · exact h.slot p hm y hy he
      · rw [List.mem_singleton.1 hm] at he ⊢
        obtain ⟨k, hk⟩ := List.getElem?_of_mem hy
        have he' : y.Slot = z0'.Slot := he
        have : k = i := slot_inj hr hk hyi (by rw [he', g2])
        subst this
        have : y = r[k] := by rw [hyi] at hk; injection hk with hk; exact hk.symm
        subst this
        exact g3.symm
    · rcases List.mem_append.1 hpm with hm | hm
      · rcases List.mem_or_eq_of_mem_set hz with hz | hz
        · exact h.none p hm h0 z hz ht
        · subst hz
          have := h.none p hm h0 z0' (List.mem_of_getElem? g1) ht
          omega
      · rw [List.mem_singleton.1 hm] at h0
        have h0' : z0'.Slot = 0 := h0
        omega
theorem good_picks {l : List Place} {r : List Reel} (hr : ReelsOk r) (s : List Instead) (m : Nat) : Good l r (m * l.length) (boardsTo l s r m) :=
  (picks_ind (l := l) (s := s) (r := r) (Good l r) ⟨rfl, fun i p h => (by simp at h), rfl, fun k y hy => ⟨y, hy, rfl, rfl, (hr.each y (List.mem_of_getElem? hy)).2.1, (by simp [cntOf])⟩, fun p h => (by cases h), fun p h => (by cases h)⟩
    (fun m j x st hx h => good_step hr hx h) m).1
theorem S_Left_zero {rs : List Reel} {name : Str} (h0 : ∀ z ∈ rs, z.Typ = name → z.Left = 0) {Q : Int → Prop} (h : Q 0) : M_ref10_Left rs name Q := by
  unfold M_ref10_Left
  refine forIn0 (fun _ n => n = 0) rfl (fun k x n hx hI next hn => ?_) (fun n hI => by subst hI; exact h)
  subst hI
  unfold M_ref10_Left_L1
  refine cnd_of (fun e => ?_) (fun e => hn _ rfl)
  have := h0 x (List.mem_of_getElem? hx) (by simpa using e)
  rw [this]
  exact hn _ (by rw [w64_id] <;> omega)
theorem w64_nat {n : Nat} (h : n ≤ 100000) : w64 (n : Int) = (n : Int) := by rw [w64_id] <;> omega
theorem w64_succ {n : Nat} (h : n ≤ 100000) : w64 ((n : Int) + 1) = ((n + 1 : Nat) : Int) := by rw [w64_id] <;> omega
theorem count_row {r : List Reel} {ps : List Pick} {p : Pick} (hl : ps.length ≤ 20000) (hs : ∀ y ∈ r, y.Slot = p.Slot → y.Typ = p.Typ) {F : List Int → Prop} (h : F (r.map (cntOf (ps ++ [p])))) {Q : Bool → Prop} :
    forIn' (fun k x (s : List Int) next => M_law_PicksTake_L3 Q p k x s (fun l4 => next l4)) F r 0 (r.map (cntOf ps)) := by
  refine forIn0 (fun k g => g = (r.take k).map (cntOf (ps ++ [p])) ++ (r.drop k).map (cntOf ps)) (by simp) (fun k x g hx hI next hn => ?_) (fun g hI => by subst hI; simpa using h)
  subst hI
  have hk := lt_of_get hx
  have hxk : x = r[k] := by rw [List.getElem?_eq_getElem hk] at hx; injection hx with hx; exact hx.symm
  have hd : r.drop k = x :: r.drop (k + 1) := by rw [hxk]; exact List.drop_eq_getElem_cons hk
  have hlen : ((r.take k).map (cntOf (ps ++ [p]))).length = k := by rw [List.length_map, List.length_take]; omega
  have ht : (r.take (k + 1)).map (cntOf (ps ++ [p])) = (r.take k).map (cntOf (ps ++ [p])) ++ [cntOf (ps ++ [p]) x] := by rw [List.take_add_one, hx, List.map_append]; rfl
  unfold M_law_PicksTake_L3
  refine cnd_of (fun e => ?_) (fun e => ?_)
  · have e' : x.Slot = p.Slot := by simpa using e
    refine idx_nat (x := cntOf ps x) ?_ (cnd_of (fun e2 => ?_) (fun _ => hn _ ?_))
    · rw [List.getElem?_append_right (by omega), hlen, Nat.sub_self, hd]; rfl
    · have := hs x (List.mem_of_getElem? hx) e'
      rw [this] at e2
      simp at e2
    · have hc : 0 ≤ cntOf ps x ∧ cntOf ps x ≤ 20000 := by
        unfold cntOf
        have := List.countP_le_length (p := fun q : Pick => q.Slot == x.Slot) (l := ps)
        omega
      have hw : w64 (cntOf ps x + 1) = cntOf (ps ++ [p]) x := by rw [cntOf_add, if_pos e'.symm, w64_id] <;> omega
      rw [hw, ht, List.set_append, if_neg (by omega), hlen, Nat.sub_self, hd, List.append_assoc]
      rfl
  · have e' : ¬ p.Slot = x.Slot := by simp at e; exact fun h => e h.symm
    have hw : cntOf (ps ++ [p]) x = cntOf ps x := by rw [cntOf_add, if_neg e', Int.add_zero]
    refine hn _ ?_
    rw [ht, hw, hd, List.append_assoc]
    rfl
theorem law_PicksTake_true (b : List Body) (l : List Place) (r : List Reel) (s : List Instead) (boards : Int) (hb : Fits.fits b) (hlf : Fits.fits l) (hrf : Fits.fits r) (hsf : Fits.fits s) : M_law_PicksTake b l r s boards (· = true) := by
  unfold M_law_PicksTake
  have aw : M_awake (fun y => y = true) := S_awake rfl
  refine S_mount_Picks hb hlf hrf hsf ?_
  unfold picksOf
  by_cases hf : picksFault b l r s boards = 0
  · rw [hf, if_neg (by decide)]
    simp only [bne_self_eq_false, cnd_false]
    unfold picksFault at hf
    split at hf
    · contradiction
    rename_i f1
    split at hf
    · contradiction
    rename_i f2
    split at hf
    · contradiction
    rename_i f3
    split at hf
    · cases hf
    rename_i f4
    split at hf
    · cases hf
    rename_i f5
    have e1 : placesFault b l = 0 := Decidable.not_not.1 f1
    have e2 : reelsFault r = 0 := Decidable.not_not.1 f2
    have hr := reels_ok e2
    have hl := (places_ok e1).len
    have e4 : within boards 0 1000 = true := by simpa using f4
    have hbd : 0 ≤ boards ∧ boards ≤ 1000 := by unfold within at e4; simpa using e4
    have hmul : 0 ≤ (l.length : Int) * boards := Int.mul_nonneg (by omega) hbd.1
    have g := good_picks (l := l) hr s boards.toNat
    have hbn : boards = ((boards.toNat : Nat) : Int) := by omega
    have hw : w64 ((l.length : Int) * boards) = ((boards.toNat * l.length : Nat) : Int) := by
      rw [w64_id (by omega) (by omega), Int.natCast_mul, ← hbn, Int.mul_comm]
    have hcl : boards.toNat * l.length ≤ 20000 := by
      have : ((boards.toNat * l.length : Nat) : Int) = (l.length : Int) * boards := by rw [Int.natCast_mul, ← hbn, Int.mul_comm]
      omega
    generalize boardsTo l s r boards.toNat = st at g
    obtain ⟨ps, rs⟩ := st
    have hpl : ps.length = boards.toNat * l.length := g.len
    have hrl : rs.length = r.length := g.rlen
    dsimp only
    rw [hw]
    have c1 : ((ps.length : Int) != ((boards.toNat * l.length : Nat) : Int)) = false := by simp [hpl]
    have c2 : ((rs.length : Int) != (r.length : Int)) = false := by simp [hrl]
    rw [c1, c2, cnd_false]
    unfold M_law_PicksTake_k1
    rw [cnd_false]
    have hrl2 := hr.len
    refine ⟨by omega, ?_⟩
    refine forIn0 (fun i gave => gave = r.map (cntOf (ps.take i))) ?_ (fun i p gave hp hI next hn => ?_) (fun gave hI => ?_)
    · symm
      apply List.ext_getElem (by simp)
      intro i h1 h2
      simp [cntOf]
    · subst hI
      have hi := lt_of_get hp
      have hl0 : 0 < l.length := by
        rcases Nat.eq_zero_or_pos l.length with h0 | h0
        · rw [h0, Nat.mul_zero] at hpl; omega
        · exact h0
      obtain ⟨hbo, x, hx, hpart⟩ := g.board i p hp
      unfold M_law_PicksTake_L1
      have hdiv : (i : Int).tdiv (l.length : Int) = ((i / l.length : Nat) : Int) := by
        rw [Int.tdiv_eq_ediv_of_nonneg (by omega)]; rfl
      have hmod : (i : Int).tmod (l.length : Int) = ((i % l.length : Nat) : Int) := by
        rw [Int.tmod_eq_emod_of_nonneg (by omega)]; rfl
      have hile : i / l.length ≤ 100000 := Nat.le_trans (Nat.div_le_self _ _) (by omega)
      have hw1 : w64 ((i / l.length : Nat) : Int) = ((i / l.length : Nat) : Int) := w64_nat hile
      have hw2 : w64 (((i / l.length : Nat) : Int) + 1) = ((i / l.length + 1 : Nat) : Int) := w64_succ hile
      refine ⟨by omega, ?_⟩
      rw [hdiv, hmod, hw1, hw2, hbo]
      simp only [bne_self_eq_false, cnd_false]
      refine ⟨by omega, idx_nat hx ?_⟩
      rw [hpart]
      simp only [beq_self_eq_true, Bool.not_true]
      unfold M_law_PicksTake_k5
      rw [cnd_false]
      have hpm : p ∈ ps := List.mem_of_getElem? hp
      have htk : ps.take (i + 1) = ps.take i ++ [p] := by rw [List.take_add_one, hp]; rfl
      refine count_row (ps := ps.take i) (by rw [List.length_take]; omega) (g.slot p hpm) ?_
      rw [← htk]
      unfold M_law_PicksTake_k7
      refine cnd_of (fun e => ?_) (fun _ => ?_)
      · have h0 : p.Slot = 0 := by simpa using e
        refine S_Left_zero (fun z hz ht => ?_) ?_
        · have h1 := g.none p hpm h0 z hz ht
          obtain ⟨k, hk⟩ := List.getElem?_of_mem hz
          have hkr : k < r.length := by have := lt_of_get hk; omega
          obtain ⟨z', g1, _, _, g4, _⟩ := g.reel k _ (List.getElem?_eq_getElem hkr)
          have : z' = z := by rw [show (ps, rs).2 = rs from rfl] at g1; rw [g1] at hk; injection hk
          subst this
          omega
        · rw [show decide ((0 : Int) > 0) = false by decide, cnd_false]
          exact hn _ rfl
      · rw [cnd_false]
        exact hn _ rfl
    · subst hI
      rw [List.take_length]
      refine forIn0 (fun _ _ => True) trivial (fun k y u hy _ next hn => ?_) (fun _ _ => aw)
      obtain ⟨z, g1, g2, g3, g4, g5⟩ := g.reel k y hy
      unfold M_law_PicksTake_L2 M_law_PicksTake_k4
      have hyb := (hr.each y (List.mem_of_getElem? hy)).2
      refine idx_nat g1 (cnd_of (fun e => by simp at e; omega) (fun _ => idx_nat (x := cntOf ps y) (by rw [List.getElem?_map, hy]; rfl) ?_))
      have hw3 : w64 (z.Left + cntOf ps y) = y.Left := by
        have g5' : z.Left + cntOf ps y = y.Left := g5
        rw [g5', w64_id] <;> omega
      rw [hw3, g2, g3]
      simp only [bne_self_eq_false, cnd_false, beq_self_eq_true, Bool.not_true]
      exact hn () trivial
  · rw [if_pos hf]
    have : (picksFault b l r s boards != 0) = true := by simpa using hf
    rw [this, cnd_true]
    exact cnd_of (fun _ => cnd_of (fun _ => aw) (fun e => by simp at e)) (fun e => by simp at e)
end Go.Proofs.YtcmlcgjjkccaeaaDoor

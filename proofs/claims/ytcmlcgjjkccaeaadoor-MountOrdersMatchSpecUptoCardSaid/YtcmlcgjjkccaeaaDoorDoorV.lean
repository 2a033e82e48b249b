/- Chapter texts of ours, as far as the claim needs them. -/
import Derived.Test.YtcmlcgjjkccaeaaDoorDoorU
namespace Go.Proofs.YtcmlcgjjkccaeaaDoor
open Go Go.RowKit
set_option linter.unusedVariables false
set_option linter.unusedSimpArgs false
section
variable {b : List Body} {l : List Place}
def nzStep (b : List Body) (l : List Place) (k : Nat) (x : Int) (s : List Str × Int) : List Str × Int :=
  (s.1.set k (nozB b (plc l x)), if s.1.getD k [] ≠ [] ∧ s.1.getD k [] ≠ nozB b (plc l x) then w64 (s.2 + 1) else s.2)
def nzRow (b : List Body) (l : List Place) : List Int → Nat → List Str × Int → List Str × Int
  | [], _, s => s
  | x :: r, k, s => nzRow b l r (k + 1) (nzStep b l k x s)
def nzAll (b : List Body) (l : List Place) (rs : List (List Int)) (s : List Str × Int) : List Str × Int := rs.foldl (fun s r => nzRow b l r 0 s) s
theorem nzRow_len (b : List Body) (l : List Place) : ∀ (r : List Int) (k : Nat) (s : List Str × Int), (nzRow b l r k s).1.length = s.1.length
  | [], _, _ => rfl
  | x :: r, k, s => by unfold nzRow; rw [nzRow_len b l r]; unfold nzStep; simp
theorem nzAll_len (b : List Body) (l : List Place) : ∀ (rs : List (List Int)) (s : List Str × Int), (nzAll b l rs s).1.length = s.1.length
  | [], _ => rfl
  | r :: rs, s => by
    show (nzAll b l rs (nzRow b l r 0 s)).1.length = _
    rw [nzAll_len b l rs, nzRow_len]
theorem nz_cases {x : Int} {k : Nat} {h0 : List Str} {n : Int} {A : Int → Prop} (h : A (nzStep b l k x (h0, n)).2) (c1 c2 : Bool) (e1 : c1 = true ↔ h0.getD k [] ≠ []) (e2 : c2 = true ↔ h0.getD k [] ≠ nozB b (plc l x)) {B1 B2 : Prop} (b1 : c1 = true → cnd c2 (A (w64 (n + 1))) (A n) → B1) (b2 : c1 = false → A n → B2) : cnd c1 B1 B2 := by
  unfold nzStep at h
  simp only at h
  refine cnd_of (fun f => b1 f (cnd_of (fun f2 => ?_) (fun f2 => ?_))) (fun f => b2 f ?_)
  · rw [if_pos ⟨e1.1 f, e2.1 f2⟩] at h; exact h
  · rw [if_neg (fun hh => by rw [e2.2 hh.2] at f2; cases f2)] at h; exact h
  · rw [if_neg (fun hh => by rw [e1.2 hh.1] at f; cases f)] at h; exact h
theorem nbeq {x y : Str} : (!(x == y)) = true ↔ x ≠ y := by simp
theorem nz_row (hp : PlacesOk b l) {done : List Str × Int → Prop} : ∀ (r : List Int) (k : Nat) (s : List Str × Int), s.1.length = 20 → k + r.length ≤ 20 → (∀ x ∈ r, Num l x) → done (nzRow b l r k s) →
    forIn' (fun k x (s : List Str × Int) next => M_mount_Nozzles_L2 b l k x s.1 s.2 (fun l4 n4 => next (l4, n4))) done r k s
  | [], _, _, _, _, _, h => h
  | x :: r, k, (h0, n), hl, hk, hx, h => by
    simp only [List.length_cons] at hk
    have hxN := hx x List.mem_cons_self
    have hg : h0[k]? = some (h0.getD k []) := by rw [List.getD_eq_getElem?_getD, List.getElem?_eq_getElem (by simp only at hl; omega)]; rfl
    have more := nz_row hp (done := done) r (k + 1) (nzStep b l k x (h0, n)) (by unfold nzStep; simpa using hl) (by omega) (fun y hy => hx y (List.mem_cons_of_mem _ hy)) h
    show M_mount_Nozzles_L2 b l k x h0 n _
    unfold M_mount_Nozzles_L2
    refine ⟨hxN.1, _, plc_get hxN, S_mount_bodyOf hp.bodies (idx_nat hg ?_)⟩
    have hn : ((bodyAt b (plc l x).Typ).getD noBody).Nozzle = nozB b (plc l x) := rfl
    rw [hn]
    refine nz_cases (b := b) (l := l) (x := x) (k := k) (h0 := h0) (n := n) (A := fun v => M_mount_Nozzles_k4 k h0 (fun l4 n4 => forIn' (fun k x (s : List Str × Int) next => M_mount_Nozzles_L2 b l k x s.1 s.2 (fun l4 n4 => next (l4, n4))) done r (k + 1) (l4, n4)) ((bodyAt b (plc l x).Typ).getD noBody) v) ?_ _ _ nbeq nbeq (fun _ hc => idx_nat hg (by unfold M_mount_Nozzles_k5; exact hc)) (fun _ hc => by unfold M_mount_Nozzles_k5; exact ⟨fun e => (by cases e), fun _ => hc⟩)
    unfold M_mount_Nozzles_k4
    refine idx_nat hg ?_
    rw [hn, Int.toNat_natCast]
    exact more
theorem nz_row' (hp : PlacesOk b l) {done : List Str × Int → Prop} : ∀ (r : List Int) (k : Nat) (s : List Str × Int), s.1.length = 20 → k + r.length ≤ 20 → (∀ x ∈ r, Num l x) → done (nzRow b l r k s) →
    forIn' (fun k x (s : List Str × Int) next => M_ref10_Nozzles_L3 b l k x s.1 s.2 (fun l6 n4 => next (l6, n4))) done r k s
  | [], _, _, _, _, _, h => h
  | x :: r, k, (h0, n), hl, hk, hx, h => by
    simp only [List.length_cons] at hk
    have hxN := hx x List.mem_cons_self
    have hg : h0[k]? = some (h0.getD k []) := by rw [List.getD_eq_getElem?_getD, List.getElem?_eq_getElem (by simp only at hl; omega)]; rfl
    have more := nz_row' hp (done := done) r (k + 1) (nzStep b l k x (h0, n)) (by unfold nzStep; simpa using hl) (by omega) (fun y hy => hx y (List.mem_cons_of_mem _ hy)) h
    have hpx := hp.each _ (List.mem_of_getElem? (plc_get hxN))
    show M_ref10_Nozzles_L3 b l k x h0 n _
    unfold M_ref10_Nozzles_L3
    refine ⟨hxN.1, _, plc_get hxN, S_ref10_body hp.bodies hpx.2.1 (idx_nat hg ?_)⟩
    have hn : ((bodyAt b (plc l x).Typ).getD noBody).Nozzle = nozB b (plc l x) := rfl
    rw [hn]
    refine nz_cases (b := b) (l := l) (x := x) (k := k) (h0 := h0) (n := n) (A := fun v => M_ref10_Nozzles_k4 k h0 (fun l6 n4 => forIn' (fun k x (s : List Str × Int) next => M_ref10_Nozzles_L3 b l k x s.1 s.2 (fun l6 n4 => next (l6, n4))) done r (k + 1) (l6, n4)) ((bodyAt b (plc l x).Typ).getD noBody) v) ?_ _ _ nbeq nbeq (fun _ hc => by unfold M_ref10_Nozzles_k5; exact hc) (fun _ hc => by unfold M_ref10_Nozzles_k5; exact ⟨fun e => (by cases e), fun _ => hc⟩)
    unfold M_ref10_Nozzles_k4
    refine idx_nat hg ?_
    rw [hn]
    exact more
def badRow (r : List Int) : Bool := !(within (r.length : Int) 1 20)
def rowsOk (l : List Place) (rounds : List (List Int)) : Bool := decide (IsP l.length rounds.flatten ∧ rounds.flatten.length = l.length) && !(rounds.any badRow)
def nozFault (b : List Body) (l : List Place) (rounds : List (List Int)) : Int := if placesFault b l ≠ 0 then placesFault b l else if rowsOk l rounds = false then 3 else 0
def nozOf (b : List Body) (l : List Place) (rounds : List (List Int)) : Int := if nozFault b l rounds ≠ 0 then 0 else (nzAll b l rounds (List.replicate 20 [], 0)).2
theorem nozOf_bad {rounds : List (List Int)} (h : nozFault b l rounds ≠ 0) : nozOf b l rounds = 0 := by unfold nozOf; rw [if_pos h]
theorem flat_take (rounds : List (List Int)) (k : Nat) : (rounds.take k).flatten.length ≤ rounds.flatten.length := by
  have : rounds.flatten = (rounds.take k).flatten ++ (rounds.drop k).flatten := by rw [← List.flatten_append, List.take_append_drop]
  rw [this, List.length_append]; omega
theorem flat_succ {rounds : List (List Int)} {k : Nat} {r : List Int} (h : rounds[k]? = some r) : (rounds.take (k + 1)).flatten = (rounds.take k).flatten ++ r := by
  rw [List.take_add_one, h, List.flatten_append]; simp
theorem S_concat_int {rounds : List (List Int)} (hl : rounds.flatten.length ≤ 2000000) {Q : List Int → Prop} (h : Q rounds.flatten) : M_concat_int rounds Q := by
  unfold M_concat_int
  refine forIn0 (fun k (n : Int) => n = ((rounds.take k).flatten.length : Int)) rfl (fun k x n hx hI next hn => ?_) (fun n hI => ?_)
  · have h1 := flat_take rounds (k + 1)
    rw [flat_succ hx, List.length_append] at h1
    subst hI
    unfold M_concat_int_L1
    rw [show w64 (((rounds.take k).flatten.length : Int) + (x.length : Int)) = (((rounds.take k).flatten.length + x.length : Nat) : Int) by rw [w64_id] <;> omega, decide_eq_false (show ¬ ((((rounds.take k).flatten.length + x.length : Nat) : Int) < 0) by omega)]
    simp only [cnd_false]
    refine hn _ ?_
    rw [flat_succ hx, List.length_append]
  · rw [List.take_length] at hI
    subst hI
    unfold M_grow_int
    refine ⟨⟨Int.natCast_nonneg _, room_of (by rw [Int.toNat_natCast]; omega) (by decide)⟩, ?_⟩
    refine forIn0 (fun k (s : List Int) => s = (rounds.take k).flatten) rfl (fun k x s hx hI next hn => ?_) (fun s hI => ?_)
    · have h1 := flat_take rounds (k + 1)
      rw [flat_succ hx] at h1
      subst hI
      unfold M_concat_int_L2
      exact ⟨room_of (by omega) (by decide), hn _ (flat_succ hx).symm⟩
    · rw [List.take_length] at hI
      subst hI; exact h
theorem S_containsfunc_row {rounds : List (List Int)} {Q : Bool → Prop} (h : Q (rounds.any badRow)) : M_containsfunc_row rounds Q := by
  unfold M_containsfunc_row M_indexfunc_row
  have key : ∀ (rs : List (List Int)) (k : Nat), (rs.any badRow = true → Q true) → (rs.any badRow = false → Q false) → forIn' (fun k x (s : Unit) next => M_indexfunc_row_L1 (fun y1 => Q (decide (y1 ≥ 0))) k x (next ())) (fun (s : Unit) => Q (decide ((-1 : Int) ≥ 0))) rs k () := by
    intro rs
    induction rs with
    | nil => intro k _ h2; exact h2 rfl
    | cons r rs ih =>
      intro k h1 h2
      simp only [forIn', M_indexfunc_row_L1, M_Nozzles1]
      simp only [forIn', M_indexfunc_row_L1, M_Nozzles1] at ih
      refine cnd_of (fun e => ?_) (fun e => ?_)
      · rw [decide_eq_true (show (k : Int) ≥ 0 by omega)]
        refine h1 ?_
        rw [List.any_cons, show badRow r = true from e]; rfl
      · have e' : badRow r = false := e
        rw [List.any_cons, e', Bool.false_or] at h1 h2
        exact ih (k + 1) h1 h2
  exact key rounds 0 (fun e => by rw [e] at h; exact h) (fun e => by rw [e] at h; exact h)
theorem rowsOk_each {rounds : List (List Int)} (h : rowsOk l rounds = true) : IsP l.length rounds.flatten ∧ rounds.flatten.length = l.length ∧ ∀ r ∈ rounds, 1 ≤ r.length ∧ r.length ≤ 20 := by
  unfold rowsOk at h
  rw [Bool.and_eq_true] at h
  obtain ⟨h1, h2⟩ := h
  have h1 := of_decide_eq_true h1
  refine ⟨h1.1, h1.2, fun r hr => ?_⟩
  have h3 := not_t h2
  have h4 := List.any_eq_false.1 h3 r hr
  unfold badRow within at h4
  simp at h4; omega
theorem S_mount_Nozzles (hb : Fits.fits b) (hlf : Fits.fits l) {rounds : List (List Int)} (hfl : rounds.flatten.length ≤ 2000000) {Q : Int → Int → Prop} (h : Q (nozOf b l rounds) (nozFault b l rounds)) : M_mount_Nozzles b l rounds Q := by
  unfold M_mount_Nozzles
  refine S_mount_CheckPlaces hb hlf (cnd_of (fun e => ?_) (fun e => ?_))
  · have e' : placesFault b l ≠ 0 := by simpa using e
    have hF : nozFault b l rounds = placesFault b l := by unfold nozFault; rw [if_pos e']
    rw [nozOf_bad (by rw [hF]; exact e'), hF] at h; exact h
  have e' : placesFault b l = 0 := by simpa using e
  have hp := places_ok e'
  have hll := hp.len
  refine S_concat_int hfl (S_mount_isOrder (by omega) (cnd_of (fun e2 => ?_) (fun e2 => ?_)))
  · have hF : nozFault b l rounds = 3 := by unfold nozFault; rw [if_neg (by simp [e']), if_pos (by unfold rowsOk; rw [not_t e2]; rfl)]
    rw [nozOf_bad (by rw [hF]; decide), hF] at h
    unfold M_mount_Nozzles_k1
    simp only [cnd_true]; exact h
  have e3 := not_f e2
  refine S_containsfunc_row ?_
  unfold M_mount_Nozzles_k1
  refine cnd_of (fun e4 => ?_) (fun e4 => ?_)
  · have hF : nozFault b l rounds = 3 := by unfold nozFault; rw [if_neg (by simp [e']), if_pos (by unfold rowsOk; rw [e3, e4]; rfl)]
    rw [nozOf_bad (by rw [hF]; decide), hF] at h; exact h
  have hok : rowsOk l rounds = true := by unfold rowsOk; rw [e3, e4]; rfl
  have hF : nozFault b l rounds = 0 := by unfold nozFault; rw [if_neg (by simp [e']), if_neg (by rw [hok]; simp)]
  have hO : nozOf b l rounds = (nzAll b l rounds (List.replicate 20 [], 0)).2 := by unfold nozOf; rw [if_neg (by simp [hF])]
  rw [hO, hF] at h
  obtain ⟨g1, g2, g3⟩ := rowsOk_each hok
  refine forIn0 (fun k (s : List Str × Int) => s = nzAll b l (rounds.take k) (List.replicate 20 [], 0)) rfl (fun k x s hx hI next hn => ?_) (fun s hI => ?_)
  · have hxm := List.mem_of_getElem? hx
    have hsl : s.1.length = 20 := by rw [hI, nzAll_len]; simp
    unfold M_mount_Nozzles_L1
    refine nz_row hp x 0 s hsl (by have := (g3 x hxm).2; omega) (fun y hy => ?_) (hn _ ?_)
    · have := g1.2 y (List.mem_flatten.2 ⟨x, hxm, hy⟩); exact this
    · rw [List.take_add_one, hx]
      unfold nzAll
      rw [List.foldl_append, hI]; rfl
  · rw [List.take_length] at hI
    subst hI; exact h
theorem S_ref10_Nozzles (hb : Fits.fits b) (hs : ∀ p ∈ l, p.Part.length < 4294967281) {rounds : List (List Int)} (hfl : rounds.flatten.length ≤ 2000000) {Q : Int → Int → Prop} (h : Q (nozOf b l rounds) (nozFault b l rounds)) : M_ref10_Nozzles b l rounds Q := by
  unfold M_ref10_Nozzles
  refine S_ref10_CheckPlaces hb hs (cnd_of (fun e => ?_) (fun e => ?_))
  · have e' : placesFault b l ≠ 0 := by simpa using e
    have hF : nozFault b l rounds = placesFault b l := by unfold nozFault; rw [if_pos e']
    rw [nozOf_bad (by rw [hF]; exact e'), hF] at h; exact h
  have e' : placesFault b l = 0 := by simpa using e
  have hp := places_ok e'
  have hll := hp.len
  have bad : rowsOk l rounds = false → Q 0 3 := fun hr => by
    have hF : nozFault b l rounds = 3 := by unfold nozFault; rw [if_neg (by simp [e']), if_pos hr]
    rw [nozOf_bad (by rw [hF]; decide), hF] at h; exact h
  refine forIn0 (fun k (s : List Int) => s = (rounds.take k).flatten ∧ (rounds.take k).any badRow = false) ⟨rfl, rfl⟩ (fun k x s hx hI next hn => ?_) (fun s hI => ?_)
  · obtain ⟨hI1, hI2⟩ := hI
    subst hI1
    have h1 := flat_take rounds (k + 1)
    rw [flat_succ hx] at h1
    have hxm := List.mem_of_getElem? hx
    have isbad : badRow x = true → rowsOk l rounds = false := fun hx2 => by
      unfold rowsOk
      rw [List.any_eq_true.2 ⟨x, hxm, hx2⟩]; simp
    have hbad : badRow x = (((x.length : Int) == 0) || decide ((x.length : Int) > 20)) := by
      unfold badRow within
      have h0 : 0 ≤ (x.length : Int) := Int.natCast_nonneg _
      generalize (x.length : Int) = q at h0 ⊢
      rw [Bool.eq_iff_iff]; simp; omega
    unfold M_ref10_Nozzles_L1
    refine ⟨room_of (by omega) (by decide), ?_⟩
    refine cnd_of (fun f => ?_) (fun f => ?_)
    · unfold M_ref10_Nozzles_k6
      simp only [cnd_true]
      exact bad (isbad (by rw [hbad, f]; rfl))
    · unfold M_ref10_Nozzles_k6
      refine cnd_of (fun f2 => bad (isbad (by rw [hbad, f2]; simp))) (fun f2 => hn _ ⟨(flat_succ hx).symm, ?_⟩)
      rw [List.take_add_one, hx, List.any_append, hI2]
      have : badRow x = false := by rw [hbad, f, f2]; rfl
      simp [this]
  · obtain ⟨hI1, hI2⟩ := hI
    rw [List.take_length] at hI1 hI2
    subst hI1
    refine S_ref10_IsOrder (by omega) (cnd_of (fun e2 => bad (by unfold rowsOk; rw [not_t e2]; rfl)) (fun e2 => ?_))
    have hok : rowsOk l rounds = true := by unfold rowsOk; rw [not_f e2, hI2]; rfl
    have hF : nozFault b l rounds = 0 := by unfold nozFault; rw [if_neg (by simp [e']), if_neg (by rw [hok]; simp)]
    have hO : nozOf b l rounds = (nzAll b l rounds (List.replicate 20 [], 0)).2 := by unfold nozOf; rw [if_neg (by simp [hF])]
    rw [hO, hF] at h
    obtain ⟨g1, g2, g3⟩ := rowsOk_each hok
    refine ⟨⟨by decide, by decide⟩, ?_⟩
    refine forIn0 (fun k (s : List Str × Int) => s = nzAll b l (rounds.take k) (List.replicate 20 [], 0)) rfl (fun k x s hx hI next hn => ?_) (fun s hI => ?_)
    · have hxm := List.mem_of_getElem? hx
      have hsl : s.1.length = 20 := by rw [hI, nzAll_len]; simp
      unfold M_ref10_Nozzles_L2
      refine nz_row' hp x 0 s hsl (by have := (g3 x hxm).2; omega) (fun y hy => ?_) (hn _ ?_)
      · have := g1.2 y (List.mem_flatten.2 ⟨x, hxm, hy⟩); exact this
      · rw [List.take_add_one, hx]
        unfold nzAll
        rw [List.foldl_append, hI]; rfl
    · rw [List.take_length] at hI
      subst hI; exact h
theorem S_SameRounds {a : List (List Int)} {Q : Bool → Prop} (h : Q true) : M_ref10_SameRounds a a Q := by
  unfold M_ref10_SameRounds
  rw [show (((a.length : Int)) != (a.length : Int)) = false from bne_self_eq_false _]
  simp only [cnd_false]
  refine forIn0 (fun _ _ => True) trivial (fun k x s hx _ next hn => ?_) (fun _ _ => h)
  unfold M_ref10_SameRounds_L1
  refine idx_nat hx (S_equal_int ?_)
  rw [decide_eq_true rfl]
  simp only [Bool.not_true, cnd_false]
  exact hn _ trivial
theorem law_Orders_true (b : List Body) (l : List Place) (order : List Int) (heads : Int) (rounds : List (List Int)) (hb : Fits.fits b) (hlf : Fits.fits l) (hs : ∀ p ∈ l, p.Part.length < 4294967281) (hfl : rounds.flatten.length ≤ 2000000) : M_law_Orders b l order heads rounds (· = true) := by
  have k2 : M_law_Orders_k2 b l rounds (· = true) false := by
    unfold M_law_Orders_k2
    simp only [cnd_false]
    refine S_mount_Nozzles hb hlf hfl (S_ref10_Nozzles hb hs hfl ?_)
    simp only [beq_self_eq_true, cnd_true]
    exact S_awake rfl
  have k1 : M_law_Orders_k1 b l order heads rounds (· = true) false := by
    unfold M_law_Orders_k1
    simp only [cnd_false]
    refine S_mount_Rounds hb hlf (S_ref10_Rounds hb hs ?_)
    simp only [bne_self_eq_false, cnd_false]
    exact S_SameRounds k2
  unfold M_law_Orders
  refine S_mount_Ordered hb hlf (fun e => ?_) (fun e o ho => ?_)
  · refine S_ref10_Ordered hb hs (fun _ => ?_) (fun e2 => absurd e2 e)
    simp only [bne_self_eq_false, cnd_false]
    exact S_equal_int (by rw [decide_eq_true rfl]; exact k1)
  · refine S_ref10_Ordered hb hs (fun e2 => absurd e e2) (fun _ o' ho' => ?_)
    simp only [bne_self_eq_false, cnd_false]
    exact S_equal_int (by rw [decide_eq_true (OrdOk.uniq (places_ok e) ho ho')]; exact k1)
theorem flat_bulk : ∀ rounds : List (List Int), rounds.flatten.length ≤ (rounds.map Bulk.bk).sum
  | [] => by simp
  | r :: rs => by
    have h1 := flat_bulk rs
    have h2 := bulk_len r
    simp only [List.flatten_cons, List.length_append, List.map_cons, List.sum_cons]; omega
theorem parts_small2 {l : List Place} (h : Bulk.bk l ≤ 1048576) : ∀ p ∈ l, p.Part.length < 4294967281 := fun p hp => by
  have h1 := bulk_mem hp
  have h2 : Bulk.bk p.Part ≤ Bulk.bk p := Nat.le_add_right _ _
  have h3 : p.Part.length + 1 ≤ Bulk.bk p.Part := Nat.le_refl _
  omega
theorem law_Orders_upto (b : List Body) (l : List Place) (order : List Int) (heads : Int) (rounds : List (List Int)) (hb : Fits.fits b) (hlf : Fits.fits l) (k1 : Bulk.bk l ≤ 1048576) (k2 : Bulk.bk rounds ≤ 1048576) : M_law_Orders b l order heads rounds (· = true) := by
  refine law_Orders_true b l order heads rounds hb hlf (parts_small2 k1) ?_
  have h1 := flat_bulk rounds
  have h2 : (rounds.map Bulk.bk).sum + 1 = Bulk.bk rounds := rfl
  omega
theorem S_ref10_TallOf (hb : BodiesOk b) {p : Place} (hs : (bodyAt b p.Typ).isSome = true) {Q : Int → Prop} (h : Q (tallB b p)) : M_ref10_TallOf b p Q := by
  unfold M_ref10_TallOf
  refine S_ref10_bodyOf ?_
  have := bodyIx_at b p.Typ
  split at this
  · rename_i i hi
    obtain ⟨x, h1, h2⟩ := this
    rw [decide_eq_true (show ((i : Int) ≥ 0) by omega)]
    simp only [cnd_true]
    refine idx_nat h1 ?_
    unfold tallB at h
    rw [h2] at h; exact h
  · rw [this] at hs; cases hs
theorem law_OrderIsOne_true (b : List Body) (l : List Place) (heads : Int) (hb : Fits.fits b) (hlf : Fits.fits l) : M_law_OrderIsOne b l heads (· = true) := by
  unfold M_law_OrderIsOne
  refine S_mount_Ordered hb hlf (fun e => ?_) (fun e o ho => ?_)
  · refine cnd_of (fun _ => ?_) (fun e2 => absurd (by simpa using e2) e)
    show cnd true _ _
    simp only [cnd_true]
    exact S_awake rfl
  have hp := places_ok e
  have hll := hp.len
  have hisP := ord_isP ho.1
  show cnd false _ _
  simp only [cnd_false]
  refine S_ref10_IsOrder (by omega) ?_
  rw [decide_eq_true hisP]
  simp only [Bool.not_true, cnd_false]
  have hoN : ∀ x ∈ o, Num l x := fun x hx => num_range x (ho.1.mem_iff.1 hx)
  refine lp_measN (fun m (n2 : Int) => ∃ i : Nat, 1 ≤ i ∧ n2 = (i : Int) ∧ m = o.length + 1 - i ∧ i ≤ 1 + o.length) (n := o.length + 1 - 1) ⟨1, Nat.le_refl _, rfl, rfl, by omega⟩ ?_
  rintro m n2 F ⟨i, hi1, rfl, hm, hi2⟩ hF
  unfold M_law_OrderIsOne_L1
  by_cases hlt : i < o.length
  · rw [decide_eq_true (show ((i : Int) < (o.length : Int)) by omega)]
    simp only [cnd_true]
    rw [w64_sub1 (by omega) (by omega)]
    have hx : o[i - 1]? = some (o[i - 1]'(by omega)) := List.getElem?_eq_getElem _
    generalize o[i - 1]'(by omega) = x at hx
    have hy : o[i]? = some (o[i]'(by omega)) := List.getElem?_eq_getElem _
    generalize o[i]'(by omega) = y at hy
    have hxN := hoN x (List.mem_of_getElem? hx)
    have hyN := hoN y (List.mem_of_getElem? hy)
    have hle : ltP b (plc l y) (plc l x) = false := ho.2.get (lo_ltI b l (Num l)) hoN hx hy (by omega)
    have hpx := hp.each _ (List.mem_of_getElem? (plc_get hxN))
    have hpy := hp.each _ (List.mem_of_getElem? (plc_get hyN))
    have go : M_law_OrderIsOne_k2 (· = true) (i : Int) (fun n2 => F n2) false := by
      unfold M_law_OrderIsOne_k2
      simp only [cnd_false]
      rw [w64_add1 (by omega)]
      exact hF (o.length + 1 - (i + 1)) _ (by omega) ⟨i + 1, by omega, rfl, rfl, by omega⟩
    refine idx_nat hx ⟨hxN.1, _, plc_get hxN, idx_nat hy ⟨hyN.1, _, plc_get hyN, ?_⟩⟩
    have hnot : ∀ h : ltP b (plc l y) (plc l x) = true, False := fun h => by rw [hle] at h; cases h
    have tall : (plc l x).Below = (plc l y).Below → M_ref10_TallOf b (plc l x) fun y5 => M_ref10_TallOf b (plc l y) fun y6 => M_law_OrderIsOne_k2 (· = true) (i : Int) (fun n2 => F n2) (decide (y5 > y6)) := fun hbel => by
      refine S_ref10_TallOf hp.bodies hpx.2.1 (S_ref10_TallOf hp.bodies hpy.2.1 ?_)
      have hs : sideP (plc l y) = sideP (plc l x) := by unfold sideP; rw [hbel]
      have : ¬ tallB b (plc l x) > tallB b (plc l y) := fun hh => hnot (ltP_iff.2 (.inr ⟨hs, .inl hh⟩))
      rw [decide_eq_false this]; exact go
    refine cnd_of (fun f => cnd_of (fun f2 => ?_) (fun f2 => ?_)) (fun f => ?_)
    · exfalso
      have f2' := not_t f2
      refine hnot (ltP_iff.2 (.inl ?_))
      unfold sideP
      rw [f, f2']; decide
    · have f2' := not_f f2
      rw [f, f2']
      show cnd true _ _
      simp only [cnd_true]
      exact tall (f.trans f2'.symm)
    · refine cnd_of (fun f3 => tall (by simpa using f3)) (fun _ => go)
  · rw [decide_eq_false (show ¬ ((i : Int) < (o.length : Int)) by omega)]
    simp only [cnd_false]
    have hord : decide (IsP l.length o ∧ o.length = l.length) = true := decide_eq_true hisP
    refine S_mount_Rounds hb hlf ?_
    by_cases hw : within heads 1 20 = true
    · have hF0 : roundsFault b l o heads = 0 := by unfold roundsFault; rw [if_neg (by simp [e]), if_neg (by rw [hord]; simp), if_neg (by rw [hw]; simp)]
      rw [roundsOf_ok hF0, hF0]
      show cnd false _ _
      simp only [cnd_false]
      have hh : 1 ≤ heads ∧ heads ≤ 20 := by unfold within at hw; simpa using hw
      have hR := rGo_inv (b := b) (l := l) hh.1 o o.length (Nat.le_refl _)
      rw [List.take_length] at hR
      refine forIn0 (fun _ _ => True) trivial (fun k r s hr _ next hn => ?_) (fun _ _ => ?_)
      · have h1 := hR.each r (List.mem_of_getElem? hr)
        unfold M_law_OrderIsOne_L2
        rw [show ((r.length : Int) == 0) = false by simp; intro h; rw [h] at h1; simp at h1]
        simp only [cnd_false]
        rw [decide_eq_false (show ¬ ((r.length : Int) > heads) by omega)]
        unfold M_law_OrderIsOne_k4
        simp only [cnd_false]
        exact hn _ trivial
      · have hfl : (rGo b l heads o).1.flatten.length ≤ 2000000 := by rw [hR.flat]; omega
        have hrk : rowsOk l (rGo b l heads o).1 = true := by
          unfold rowsOk
          rw [hR.flat, hord]
          have : (rGo b l heads o).1.any badRow = false := List.any_eq_false.2 (fun r hr => by
            have h1 := hR.each r hr
            unfold badRow within; simp; omega)
          rw [this]; rfl
        have hnf : nozFault b l (rGo b l heads o).1 = 0 := by unfold nozFault; rw [if_neg (by simp [e]), if_neg (by rw [hrk]; simp)]
        refine S_mount_Nozzles hb hlf hfl (S_concat_int hfl (S_equal_int ?_))
        rw [decide_eq_true hR.flat, hnf]
        simp only [cnd_true]
        show cnd true _ _
        simp only [cnd_true]
        exact S_awake rfl
    · have hw' : within heads 1 20 = false := by simpa using hw
      have hF0 : roundsFault b l o heads = 1 := by unfold roundsFault; rw [if_neg (by simp [e]), if_neg (by rw [hord]; simp), if_pos hw']
      rw [hF0]
      show cnd true _ _
      simp only [cnd_true]
      show cnd true _ _
      simp only [cnd_true]
      exact S_awake rfl
end
end Go.Proofs.YtcmlcgjjkccaeaaDoor

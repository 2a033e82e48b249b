/- Chapter texts of ours, as far as the claim needs them. -/
import Derived.Test.YtdnilnmdbgcmoaaGreatDoorRxB
import Derived.Test.YtdnilnmdbgcmoaaGreatDoorRtJ
import Derived.Test.YtdnilnmdbgcmoaaGreatDoorTextQ
import Derived.Test.YtdnilnmdbgcmoaaGreatDoorTextR
namespace Go.Proofs.YtdnilnmdbgcmoaaGreatDoor
open Go Go.RowKit Go.Proofs Go.Shelf
set_option linter.unusedVariables false
set_option linter.unusedSectionVars false
set_option linter.unusedSimpArgs false
def wNet : Str := [110, 101, 116]
def wWay : Str := [119, 97, 121]
def sideOf (s : Str) : Int × Bool := if s.length ≤ 3 ∧ numeral s = true then ((numOf s).1, decide ((numOf s).1 ≤ 200)) else (0, false)
theorem sideOf_not {s : Str} (h : ¬ (s.length ≤ 3 ∧ numeral s = true)) : sideOf s = (0, false) := by unfold sideOf; rw [if_neg h]
theorem sideOf_yes {s : Str} (h1 : s.length ≤ 3) (h2 : numeral s = true) : sideOf s = ((numOf s).1, decide ((numOf s).1 ≤ 200)) := by unfold sideOf; rw [if_pos ⟨h1, h2⟩]
def cellOf (s : Str) : Option Cell := match Lib.split s [44] with
  | [x, y, l] => if (sideOf x).2 = true ∧ (sideOf y).2 = true ∧ (sideOf l).2 = true then some ⟨(sideOf x).1, (sideOf y).1, (sideOf l).1⟩ else none
  | _ => none
def wayOf : List Str → Option (List Cell)
  | [] => some []
  | s :: r => match cellOf s, wayOf r with
    | some c, some l => some (c :: l)
    | _, _ => none
theorem wayOf_len : ∀ {l : List Str} {y : List Cell}, wayOf l = some y → y.length = l.length
  | [], y, h => by injection h with h; subst h; rfl
  | s :: r, y, h => by
    unfold wayOf at h
    split at h
    · rename_i c l hc hl
      injection h with h; subst h
      rw [List.length_cons, List.length_cons, wayOf_len hl]
    · cases h
theorem wayOf_snoc : ∀ (l : List Str) (s : Str), wayOf (l ++ [s]) = match wayOf l, cellOf s with
    | some a, some c => some (a ++ [c])
    | _, _ => none
  | [], s => by
    show wayOf [s] = _
    unfold wayOf wayOf
    cases cellOf s <;> rfl
  | x :: r, s => by
    show wayOf (x :: (r ++ [s])) = _
    unfold wayOf
    rw [wayOf_snoc r s]
    cases cellOf x <;> cases wayOf r <;> cases cellOf s <;> rfl
theorem wayOf_part {l : List Str} : ∀ {a : List Str}, wayOf a = none → wayOf (a ++ l) = none
  | [], h => by cases h
  | x :: r, h => by
    show wayOf (x :: (r ++ l)) = none
    unfold wayOf at h ⊢
    cases hc : cellOf x with
    | none => rfl
    | some c =>
      rw [hc] at h
      cases hr : wayOf r with
      | none => rw [wayOf_part hr]
      | some y => rw [hr] at h; cases h
def addWay (r : List Routed) (y : List Cell) : List Routed := match r[r.length - 1]? with
  | some x => r.set (r.length - 1) ⟨x.Net, x.Ways ++ [y]⟩
  | none => r
theorem addWay_at {r : List Routed} {x : Routed} (hx : r[r.length - 1]? = some x) (y : List Cell) : addWay r y = r.set (r.length - 1) ⟨x.Net, x.Ways ++ [y]⟩ := by
  unfold addWay; rw [hx]
theorem last_at {r : List Routed} (h : r ≠ []) (hl : r.length ≤ 10000000) : ∃ x, r[r.length - 1]? = some x ∧ (w64 ((r.length : Int) - 1)) = ((r.length - 1 : Nat) : Int) := by
  have : 0 < r.length := List.length_pos_iff.2 h
  exact ⟨r[r.length - 1], List.getElem?_eq_getElem (by omega), by rw [w64_id (by omega) (by omega)]; omega⟩
def lineR (r : List Routed) : List Str → Option (List Routed)
  | [] => none
  | a :: t => if a = wNet ∧ t.length = 1 then (if isRowS (t.getD 0 []) = true then some (r ++ [⟨t.getD 0 [], []⟩]) else none)
    else if a = wWay ∧ t ≠ [] ∧ r ≠ [] then (match wayOf t with | some y => some (addWay r y) | none => none) else none
theorem lineR_cons (r : List Routed) (a : Str) (t : List Str) : lineR r (a :: t) = if a = wNet ∧ t.length = 1 then (if isRowS (t.getD 0 []) = true then some (r ++ [⟨t.getD 0 [], []⟩]) else none)
    else if a = wWay ∧ t ≠ [] ∧ r ≠ [] then (match wayOf t with | some y => some (addWay r y) | none => none) else none := rfl
theorem lineR_net (r : List Routed) (n : Str) : lineR r [wNet, n] = if isRowS n = true then some (r ++ [⟨n, []⟩]) else none := by
  rw [lineR_cons, if_pos ⟨rfl, rfl⟩]; rfl
theorem lineR_way {r : List Routed} {t : List Str} (ht : t ≠ []) (hr : r ≠ []) : lineR r (wWay :: t) = (wayOf t).map (addWay r) := by
  rw [lineR_cons, if_neg (by rintro ⟨h, _⟩; revert h; decide), if_pos ⟨rfl, ht, hr⟩]
  cases wayOf t <;> rfl
theorem lineR_none {r : List Routed} {a : Str} {t : List Str} (h1 : ¬ (a = wNet ∧ t.length = 1)) (h2 : ¬ (a = wWay ∧ t ≠ [] ∧ r ≠ [])) : lineR r (a :: t) = none := by
  rw [lineR_cons, if_neg h1, if_neg h2]
def readS : Nat → Str → Int → List Routed → (List Routed × Int × Int)
  | 0, _, _, r => ([], 0, 0)
  | k + 1, text, n, r =>
    if text = [] then (r, 0, 0) else
    match (cutS text 10).2.2, lineR r (Lib.split (cutS text 10).1 [32]) with
    | true, some r' => readS k (cutS text 10).2.1 (n + 1) r'
    | _, _ => ([], n, 10)
def Many (r : List Routed) (k : Nat) : Prop := r.length ≤ k ∧ ∀ x ∈ r, x.Ways.length ≤ k
theorem lineR_more {r r' : List Routed} {w : List Str} {k : Nat} (h : lineR r w = some r') (hm : Many r k) : Many r' (k + 1) := by
  cases w with
  | nil => cases h
  | cons a t =>
    rw [lineR_cons] at h
    split at h
    · split at h
      · injection h with h; subst h
        refine ⟨by rw [List.length_append, List.length_singleton]; have := hm.1; omega, fun x hx => ?_⟩
        rcases List.mem_append.1 hx with hx | hx
        · have := hm.2 x hx; omega
        · rw [List.mem_singleton.1 hx]; simp
      · cases h
    · split at h
      · split at h
        · injection h with h; subst h
          unfold addWay
          split
          · rename_i x hx
            refine ⟨by rw [List.length_set]; have := hm.1; omega, fun z hz => ?_⟩
            rcases List.mem_or_eq_of_mem_set hz with hz | hz
            · have := hm.2 z hz; omega
            · have := hm.2 x (List.mem_of_getElem? hx)
              rw [hz]; show (x.Ways ++ [_]).length ≤ _
              rw [List.length_append, List.length_singleton]; omega
          · exact ⟨by have := hm.1; omega, fun x hx => by have := hm.2 x hx; omega⟩
        · cases h
      · cases h
theorem splitK_len (sep : Str) (save : Nat) : ∀ (k : Nat) (s : Str), (Lib.splitK sep save k s).length ≤ k + 1
  | 0, s => Nat.le_refl _
  | k + 1, s => by
    unfold Lib.splitK
    split
    · simp
    · have := splitK_len sep save k (s.drop ((Lib.index s sep).toNat + sep.length))
      rw [List.length_cons]; omega
theorem split_len {s : Str} {c : UInt8} : (Lib.split s [c]).length ≤ s.length + 1 := by
  have h := splitK_len [c] 0 (Lib.count s [c]) s
  rw [Lib.count_one] at h
  have := List.count_le_length (a := c) (l := s)
  unfold Lib.split
  rw [Lib.count_one]; omega
theorem S_route_isRow {s : Str} {Q : Bool → Prop} (h : Q (isRowS s)) : M_route_isRow s Q := by
  unfold M_route_isRow M_route_ContainsRow
  unfold isRowS at h
  refine cnd_of (fun e => ?_) (fun e => ?_)
  · show Q (!(decide _))
    rw [idxRow, Bool.not_not]
    rw [e, Bool.true_and] at h
    exact h
  · rw [e, Bool.false_and] at h
    exact h
theorem S_ref7_isRow {s : Str} (hs : s.length < 4294967281) {Q : Bool → Prop} (h : Q (isRowS s)) : M_ref7_isRow s Q := by
  unfold M_ref7_isRow
  refine lp_scan (xs := s) (by omega) (fun b => !(rowByte b)) (A := Q false) (done := Q (!(s == []))) (fun X n hc => ?_) ?_
  · unfold M_ref7_isRow_L1
    refine cnd_of (fun e => ?_) (fun e => hc.2 e)
    obtain ⟨h0, x, hx, hk⟩ := hc.1 e
    refine ⟨h0, x, hx, cnd_of (fun e1 => ?_) (fun e1 => ?_)⟩
    · unfold M_ref7_isRow_k2
      refine cnd_of (fun _ => hk.1 ?_) (fun e' => by cases e')
      unfold rowByte; simp at e1 ⊢; omega
    · unfold M_ref7_isRow_k2
      refine cnd_of (fun e2 => hk.1 ?_) (fun e2 => hk.2 ?_)
      · unfold rowByte; simp at e1 e2 ⊢; omega
      · unfold rowByte; simp at e1 e2 ⊢; omega
  · unfold isRowS at h
    rw [List.all_eq_not_any_not] at h
    split
    · rename_i e; rw [e] at h; simpa using h
    · rename_i e
      rw [(Bool.not_eq_true _).mp e] at h; simpa using h
theorem zero_byte {b : UInt8} {r : Str} : ((b.toNat : Int) == 48) = decide (((b :: r).getD 0 0).toNat = 48) := by
  rw [List.getD_cons_zero]
  by_cases e : b.toNat = 48
  · rw [e]; rfl
  · rw [decide_eq_false e, beq_eq_false_iff_ne]; omega
theorem S_route_side {s : Str} (hs : s.length < 4294967281) {Q : Int → Bool → Prop} (h : Q (sideOf s).1 (sideOf s).2) : M_route_side s Q := by
  have kk : ∀ c1, c1 = !(decide (s.length ≤ 3) && numeral s) → M_route_side_k1 s Q c1 := by
    rintro c1 rfl
    unfold M_route_side_k1
    refine cnd_of (fun e => ?_) (fun e => ?_)
    · rw [sideOf_not (by rintro ⟨h1, h2⟩; rw [decide_eq_true h1, h2] at e; cases e)] at h; exact h
    · have e' : s.length ≤ 3 ∧ numeral s = true := by simpa using e
      rw [sideOf_yes e'.1 e'.2] at h
      exact S_Atoi (Q := fun a _ => Q a (decide (a ≤ 200))) h e'.2
  unfold M_route_side
  refine cnd_of (fun e => kk _ ?_) (fun e => cnd_of (fun e1 => kk _ ?_) (fun e1 => S_Trim hs fun y hy => cnd_of (fun e2 => kk _ ?_) (fun e2 => ?_)))
  · rw [num_false s (by rintro ⟨h1, _⟩; have := List.length_pos_iff.2 h1; have := of_decide_eq_true e; omega)]; simp
  · rw [decide_eq_false (by simp at e1; omega)]; rfl
  · rw [num_false s (by rintro ⟨_, _, h3, _⟩; rw [hy, h3] at e2; cases e2)]; simp
  · have hd : s.all isDig = true := by rw [hy] at e2; simpa using e2
    have e := of_decide_eq_false e
    have e1 := of_decide_eq_false e1
    cases s with
    | nil => exact absurd (by decide) e
    | cons b r =>
      simp only [List.length_cons] at e e1
      have l3 : decide ((b :: r).length ≤ 3) = true := by simp only [decide_eq_true_eq, List.length_cons]; omega
      have key : ∀ c : Bool, (c = false → (b :: r).length ≤ 1 ∨ (((b :: r).getD 0 0).toNat ≠ 48)) → (c = true → ¬ ((b :: r).length ≤ 1 ∨ (((b :: r).getD 0 0).toNat ≠ 48))) → M_route_side_k1 (b :: r) Q c := by
        intro c h1 h2
        refine kk _ ?_
        rw [l3, Bool.true_and]
        cases c
        · rw [numeral_of (by simp) (by simp only [List.length_cons]; omega) hd (h1 rfl)]; rfl
        · rw [num_false _ (by rintro ⟨_, _, _, h4⟩; exact h2 rfl h4)]; rfl
      refine idx_nat (i := 0) (x := b) rfl (cnd_of (fun e3 => key _ (fun e4 => .inl ?_) (fun e4 => ?_)) (fun e3 => key _ (fun _ => .inr ?_) (fun e4 => by cases e4)))
      · have : b :: r = [48] := by simpa using e4
        rw [this]; exact Nat.le_refl _
      · rw [zero_byte (r := r)] at e3
        have e5 : ((b :: r).getD 0 0).toNat = 48 := of_decide_eq_true e3
        have e6 : b = 48 := by
          have e7 : b.toNat = 48 := e5
          exact UInt8.toNat_inj.1 e7
        rintro (h4 | h4)
        · have : r = [] := by cases r with | nil => rfl | cons _ _ => simp at h4
          rw [this, e6] at e4; simp at e4
        · exact h4 e5
      · rw [zero_byte (r := r)] at e3; exact of_decide_eq_false e3
theorem cellOf3 {s x y l : Str} (e : Lib.split s [44] = [x, y, l]) : cellOf s = if (sideOf x).2 = true ∧ (sideOf y).2 = true ∧ (sideOf l).2 = true then some ⟨(sideOf x).1, (sideOf y).1, (sideOf l).1⟩ else none := by
  unfold cellOf; rw [e]
theorem cellOf_not {s : Str} (e : (Lib.split s [44]).length ≠ 3) : cellOf s = none := by
  unfold cellOf
  split
  · rename_i x y l h; rw [h] at e; exact absurd rfl e
  · rfl
theorem split_short {s x : Str} {c : UInt8} (hs : s.length < 4294967281) (hx : x ∈ Lib.split s [c]) : x.length < 4294967281 := Nat.lt_of_le_of_lt (split_fits (by omega) hx) hs
theorem S_route_readCell {s : Str} (hs : s.length < 4294967281) {Q : Cell → Bool → Prop} (h : ∀ c, cellOf s = some c → Q c true) (h0 : cellOf s = none → ∀ c, Q c false) : M_route_readCell s Q := by
  unfold M_route_readCell
  refine S_strings_Split hs (cnd_of (fun e => h0 (cellOf_not ?_) _) (fun e => ?_))
  · rw [show ((3 : Int)) = ((3 : Nat) : Int) from rfl, bne, leneq] at e; simpa using e
  have e3 : (Lib.split s [44]).length = 3 := by
    rw [show ((3 : Int)) = ((3 : Nat) : Int) from rfl, bne, leneq] at e; simpa using e
  have hle : ∀ x ∈ Lib.split s [44], x.length < 4294967281 := fun x hx => split_short hs hx
  obtain ⟨x, y, l, he⟩ := len3 e3
  rw [cellOf3 he] at h h0
  rw [he] at hle ⊢
  refine idx_nat (i := 0) (x := x) rfl (S_route_side (hle x (by simp)) (idx_nat (i := 1) (x := y) rfl (S_route_side (hle y (by simp)) (idx_nat (i := 2) (x := l) rfl (S_route_side (hle l (by simp)) ?_)))))
  refine cnd_of (fun e1 => cnd_of (fun e2 => ?_) (fun e2 => h0 (if_neg fun hh => by rw [hh.2.1] at e2; cases e2) _)) (fun e1 => h0 (if_neg fun hh => by rw [hh.1] at e1; cases e1) _)
  cases e4 : (sideOf l).2
  · exact h0 (if_neg fun hh => by rw [hh.2.2] at e4; cases e4) _
  · exact h _ (if_pos ⟨e1, e2, e4⟩)
theorem room_24 {n : Nat} (h : n ≤ 6000001) : room n 24 := ⟨by omega, by omega⟩
theorem room_40 {n : Nat} (h : n ≤ 6000001) : room n 40 := ⟨by omega, by omega⟩
theorem take_at {α : Type} {l : List α} {k : Nat} {x : α} (h : l[k]? = some x) : l.take (k + 1) = l.take k ++ [x] := by
  rw [List.take_add_one, h]; rfl
theorem wayOf_no {t : List Str} {k : Nat} {x : Str} (hx : t[k]? = some x) (hc : cellOf x = none) : wayOf t = none := by
  have e : t = t.take (k + 1) ++ t.drop (k + 1) := (List.take_append_drop _ _).symm
  rw [e]
  refine wayOf_part ?_
  rw [take_at hx, wayOf_snoc, hc]
  cases wayOf (t.take k) <;> rfl
theorem seg_tail (a : Str) (t : List Str) : seg (a :: t) (1 : Int) ((a :: t).length : Int) = t := by
  unfold seg
  rw [Int.toNat_natCast, List.take_length]; rfl
theorem way_loop {t : List Str} (ht : t.length ≤ 6000000) {B : Nat → Str → List Cell → (List Cell → Prop) → Prop} {D : List Cell → Prop}
    (hB : ∀ k x l next, t[k]? = some x → l.length ≤ 6000000 → (∀ c, cellOf x = some c → room (l ++ [c]).length 24 → next (l ++ [c])) → (cellOf x = none → wayOf t = none) → B k x l next)
    (hD : ∀ y, wayOf t = some y → D y) : forIn' B D t 0 ([] : List Cell) := by
  refine forIn0 (fun k (l : List Cell) => wayOf (t.take k) = some l) rfl (fun k x l hx hI next hn => ?_) (fun l hI => ?_)
  · have hl := wayOf_len hI
    have hk := List.length_take_le k t
    refine hB k x l next hx ?_ (fun c hc _ => hn _ ?_) (fun hc => wayOf_no hx hc)
    · have : (t.take k).length ≤ t.length := by rw [List.length_take]; omega
      omega
    · rw [take_at hx, wayOf_snoc, hI, hc]
  · rw [List.take_length] at hI
    exact hD l hI
theorem set_last {r : List Routed} {x : Routed} {y : List Cell} (hx : r[r.length - 1]? = some x) : r.set (((r.length - 1 : Nat) : Int).toNat) ⟨x.Net, x.Ways ++ [y]⟩ = addWay r y := by rw [addWay_at hx, Int.toNat_natCast]
theorem S_route_readLine {r : List Routed} {line : Str} (hll : line.length ≤ 2000000) (hm : Many r 3000000) {Q : Bool → List Routed → Prop}
    (h : ∀ r', lineR r (Lib.split line [32]) = some r' → Q true r') (h0 : lineR r (Lib.split line [32]) = none → ∀ r', Q false r') : M_route_readLine r line Q := by
  unfold M_route_readLine
  refine S_strings_Split (by omega) ?_
  have hne := split_ne line [32]
  have hlen := split_len (s := line) (c := 32)
  have hle : ∀ x ∈ Lib.split line [32], x.length < 4294967281 := fun x hx => split_short (by omega) hx
  revert h h0 hne hle hlen
  generalize Lib.split line [32] = w
  intro h h0 hne hlen hle
  obtain ⟨a, t, rfl⟩ : ∃ a t, w = a :: t := by cases w with | nil => exact absurd rfl hne | cons a t => exact ⟨a, t, rfl⟩
  rw [List.length_cons] at hlen
  have k2 : ¬ (a = wNet ∧ t.length = 1) → ∀ c2, (c2 = true ↔ (a = wWay ∧ t ≠ [] ∧ r ≠ [])) → M_route_readLine_k2 r Q (a :: t) c2 := by
    intro n1 c2 hc
    unfold M_route_readLine_k2
    refine cnd_of (fun e => ?_) (fun e => ?_)
    · obtain ⟨rfl, ht, hr⟩ := hc.1 e
      rw [lineR_way ht hr] at h h0
      refine ⟨⟨by omega, by rw [List.length_cons]; omega, Int.le_refl _⟩, ?_⟩
      rw [seg_tail]
      refine way_loop (by omega) (fun k x l next hx hl hn hno => ?_) (fun y hy => ?_)
      · unfold M_route_readLine_L1
        have rm : ∀ c : Cell, room (l ++ [c]).length 24 := fun c => room_24 (by rw [List.length_append, List.length_singleton]; omega)
        refine S_route_readCell (hle x (List.mem_cons_of_mem _ (List.mem_of_getElem? hx))) (fun c hc => cnd_of (fun e' => by cases e') (fun _ => ⟨rm c, hn c hc (rm c)⟩)) (fun hc c => cnd_of (fun _ => h0 (by rw [hno hc]; rfl) r) (fun e' => by cases e'))
      · obtain ⟨x, hx, hw⟩ := last_at hr (by have := hm.1; omega)
        have hxm := hm.2 x (List.mem_of_getElem? hx)
        show idx r (w64 ((r.length : Int) - 1)) _
        rw [hw]
        refine idx_nat (i := r.length - 1) (x := x) hx ⟨room_24 (by rw [List.length_append, List.length_singleton]; omega), ?_⟩
        rw [set_last hx]
        exact h _ (by rw [hy]; rfl)
    · exact h0 (lineR_none n1 (fun h' => by rw [hc.2 h'] at e; cases e)) r
  have k1 : ∀ c1, (c1 = true ↔ (a = wNet ∧ t.length = 1)) → M_route_readLine_k1 r Q (a :: t) c1 := by
    intro c1 hc
    unfold M_route_readLine_k1
    refine cnd_of (fun e => ?_) (fun e => ?_)
    · obtain ⟨rfl, ht⟩ := hc.1 e
      obtain ⟨n, rfl⟩ : ∃ n, t = [n] := by match t, ht with | [n], _ => exact ⟨n, rfl⟩
      rw [lineR_net] at h h0
      refine idx_nat (i := 1) (x := n) rfl ⟨room_40 (by rw [List.length_append, List.length_singleton]; have := hm.1; omega), S_route_isRow ?_⟩
      cases e1 : isRowS n
      · exact h0 (if_neg (by rw [e1]; decide)) _
      · exact h _ (if_pos e1)
    · have n1 : ¬ (a = wNet ∧ t.length = 1) := fun h' => by rw [hc.2 h'] at e; cases e
      refine idx_nat (i := 0) (x := a) rfl (cnd_of (fun ea => cnd_of (fun et => k2 n1 _ ?_) (fun et => k2 n1 _ ?_)) (fun ea => k2 n1 _ ?_))
      · have ea' : a = wWay := by simpa [wWay] using ea
        have et' : t ≠ [] := by intro h'; rw [h'] at et; simp at et
        simp only [decide_eq_true_eq]
        exact ⟨fun h' => ⟨ea', et', fun h'' => by rw [h''] at h'; simp at h'⟩, fun h' => by have := List.length_pos_iff.2 h'.2.2; omega⟩
      · have et' : t = [] := by cases t with | nil => rfl | cons _ _ => rw [decide_eq_false_iff_not] at et; simp only [List.length_cons] at et; omega
        exact ⟨fun h' => (by cases h'), fun h' => absurd et' h'.2.1⟩
      · have ea' : ¬ a = wWay := by simpa [wWay] using ea
        exact ⟨fun h' => (by cases h'), fun h' => absurd h'.1 ea'⟩
  refine idx_nat (i := 0) (x := a) rfl (cnd_of (fun ea => k1 _ ?_) (fun ea => k1 _ ?_))
  · have ea' : a = wNet := by simpa [wNet] using ea
    rw [show ((2 : Int)) = ((2 : Nat) : Int) from rfl, leneq]
    simp [ea']
  · have ea' : ¬ a = wNet := by simpa [wNet] using ea
    exact ⟨fun h' => (by cases h'), fun h' => absurd h'.1 ea'⟩
theorem S_route_Read {text : Str} {Q : List Routed → Int → Int → Prop} (h : if text.length > 2000000 then Q [] 0 2 else ∀ a, readS (text.length + 1) text 1 [] = a → Q a.1 a.2.1 a.2.2) : M_route_Read text Q := by
  unfold M_route_Read
  refine cnd_of (fun e => ?_) (fun e => ?_)
  · rw [if_pos (by simp at e; omega)] at h; exact h
  have hl : text.length ≤ 2000000 := by simp at e; omega
  rw [if_neg (by omega)] at h
  refine ⟨text.length + 1, ?_⟩
  have key : ∀ (k : Nat) (t : Str) (n : Int) (r : List Routed) (m : Nat), t.length < k → t.length ≤ 2000000 → 0 ≤ n → n + t.length ≤ 3000000 → m + t.length ≤ 2500000 → Many r m → (∀ a, readS k t n r = a → Q a.1 a.2.1 a.2.2) →
      iterF (fun again (s : List Routed × Str × Int) => M_route_Read_L1 Q (fun l2 s2 n2 => again (l2, s2, n2)) s.1 s.2.1 s.2.2) k (r, t, n) := by
    intro k
    induction k with
    | zero => intro t n r m hk; omega
    | succ k ih =>
      intro t n r m hk ht hn hn2 hmt hm hq
      have hm' : Many r 3000000 := ⟨by have := hm.1; omega, fun x hx => by have := hm.2 x hx; omega⟩
      show M_route_Read_L1 Q _ r t n
      unfold M_route_Read_L1
      unfold readS at hq
      refine cnd_of (fun e1 => ?_) (fun e1 => ?_)
      · rw [if_neg (by simpa using e1)] at hq
        refine S_strings_Cut (by omega) ?_
        have hrest := cutS_rest t 10
        have hlen := cutS_le t 10
        have k2 : ∀ (r' : List Routed) (c : Bool), (c = true → Q [] n 10) → (c = false → iterF (fun again (s : List Routed × Str × Int) => M_route_Read_L1 Q (fun l2 s2 n2 => again (l2, s2, n2)) s.1 s.2.1 s.2.2) k (r', (cutS t 10).2.1, n + 1)) → M_route_Read_k2 Q n (fun l2 s2 n2 => iterF (fun again (s : List Routed × Str × Int) => M_route_Read_L1 Q (fun l2 s2 n2 => again (l2, s2, n2)) s.1 s.2.1 s.2.2) k (l2, s2, n2)) (cutS t 10).2.1 r' c := by
          intro r' c h1 h2
          unfold M_route_Read_k2
          rw [w64_id (by omega) (by omega)]
          exact cnd_of h1 h2
        refine cnd_of (fun e2 => ?_) (fun e2 => ?_)
        · have e2' : (cutS t 10).2.2 = false := by simpa using e2
          refine k2 _ _ (fun _ => ?_) (fun e' => by cases e')
          rw [e2'] at hq
          exact hq _ rfl
        · have e2' : (cutS t 10).2.2 = true := by simpa using e2
          rw [e2'] at hq
          have hr := hrest e2'
          refine S_route_readLine (by omega) hm' (fun r' hx => ?_) (fun hx r' => ?_)
          · rw [hx] at hq
            refine k2 _ _ (fun e' => by cases e') (fun _ => ih _ _ _ (m + 1) (by omega) (by omega) (by omega) (by omega) (by omega) (lineR_more hx hm) hq)
          · rw [hx] at hq
            exact k2 _ _ (fun _ => hq _ rfl) (fun e' => by cases e')
      · rw [if_pos (by simpa using e1)] at hq
        exact hq _ rfl
  exact key _ _ _ _ 0 (by omega) hl (by omega) (by omega) (by omega) ⟨Nat.le_refl _, fun x hx => (by cases hx)⟩ h
theorem S_equal_cell {xs ys : List Cell} {Q : Bool → Prop} (h : Q (decide (xs = ys))) : M_equal_cell xs ys Q := by
  unfold M_equal_cell
  exact equal_loop (fun k x next hq => hq) h
theorem S_SameWays_self {a : List (List Cell)} {Q : Bool → Prop} (h : Q true) : M_ref7_SameWays a a Q := by
  unfold M_ref7_SameWays
  refine cnd_of (fun e => by simp at e) (fun _ => forIn0 (fun _ (_ : Unit) => True) trivial (fun k x _ hx _ next hn => ?_) (fun _ _ => h))
  unfold M_ref7_SameWays_L1
  exact idx_nat (i := k) (x := x) hx (S_equal_cell (cnd_of (fun e => by simp at e) (fun _ => hn _ trivial)))
theorem S_SameRouted_self {a : List Routed} {Q : Bool → Prop} (h : Q true) : M_ref7_SameRouted a a Q := by
  unfold M_ref7_SameRouted
  refine cnd_of (fun e => by simp at e) (fun _ => forIn0 (fun _ (_ : Unit) => True) trivial (fun k x _ hx _ next hn => ?_) (fun _ _ => h))
  unfold M_ref7_SameRouted_L1
  refine idx_nat (i := k) (x := x) hx (cnd_of (fun e => by simp at e) (fun _ => S_SameWays_self ?_))
  unfold M_ref7_SameRouted_k2
  exact cnd_of (fun e => by cases e) (fun _ => hn _ trivial)
end Go.Proofs.YtdnilnmdbgcmoaaGreatDoor

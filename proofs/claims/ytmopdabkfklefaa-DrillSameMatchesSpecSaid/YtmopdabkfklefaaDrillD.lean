/- Chapter 8: what the checks of holes, and the pairs that are near, come to. -/
import Derived.Test.YtmopdabkfklefaaDrillC
import Derived.Test.YtmopdabkfklefaaPlain
namespace Go.Proofs.Ytmopdabkfklefaa
open Go Go.RowKit
set_option linter.unusedVariables false

def holeBad (h : Hole) : Bool := !(isPoint h.At) || !(within h.Size 1 10000) || !(within h.Depth 1 100000)
def holesFault (l : List Hole) : Int := if (l.length : Int) > 2000 then 2 else if l.any holeBad = true then 1 else 0
theorem S_drill_CheckHoles {l : List Hole} {Q : Int → Prop} (h : Q (holesFault l)) : M_drill_CheckHoles l Q := by
  unfold M_drill_CheckHoles
  unfold holesFault at h
  refine cnd_of (fun e => ?_) (fun e => ?_)
  · rw [if_pos (by simpa using e)] at h; exact h
  · rw [if_neg (by simpa using e)] at h
    refine forIn_any holeBad (fun k x next h => ?_) l 0 (A := Q 1) ?_
    · unfold M_drill_CheckHoles_L1 M_drill_CheckHoles_k2
      unfold holeBad at h
      cases h1 : isPoint x.At <;> cases h2 : within x.Size 1 10000 <;> simp [h1, h2] at h ⊢ <;> first | exact h | (simp [cnd_iff]; exact h)
    · split <;> rename_i e2
      · rw [if_pos e2] at h; exact h
      · rw [if_neg e2] at h; exact h
theorem S_ref8_CheckHoles {l : List Hole} {Q : Int → Prop} (h : Q (holesFault l)) : M_ref8_CheckHoles l Q := S_drill_CheckHoles h
theorem holes_len {l : List Hole} (h : holesFault l = 0) : l.length ≤ 2000 := by
  unfold holesFault at h; split at h <;> omega

/-- how much is between two holes -/
def gapOf (a b : Hole) : Int := max (max 0 (w64 (apart a.At.X b.At.X - w64 ((w64 (a.Size + b.Size)).tdiv 2)))) (w64 (apart a.At.Y b.At.Y - w64 ((w64 (a.Size + b.Size)).tdiv 2)))
def pairAt (below : Int) (i k : Nat) (a b : Hole) : List Pair := if gapOf a b < below ∧ a.At ≠ b.At then [⟨i, k, gapOf a b⟩] else []
def rowTo (l : List Hole) (below : Int) (i : Nat) (a : Hole) : Nat → List Pair
  | 0 => []
  | m + 1 => rowTo l below i a m ++ pairAt below i (i + 1 + m) a (l.getD (i + 1 + m) default)
def pairsTo (l : List Hole) (below : Int) : Nat → List Pair
  | 0 => []
  | n + 1 => pairsTo l below n ++ rowTo l below n (l.getD n default) (l.length - (n + 1))
def pairsOf (l : List Hole) (below : Int) : List Pair := pairsTo l below l.length
theorem pairAt_len (below : Int) (i k : Nat) (a b : Hole) : (pairAt below i k a b).length ≤ 1 := by unfold pairAt; split <;> simp
theorem rowTo_len (l : List Hole) (below : Int) (i : Nat) (a : Hole) : ∀ m, (rowTo l below i a m).length ≤ m
  | 0 => by simp [rowTo]
  | m + 1 => by have := rowTo_len l below i a m; have := pairAt_len below i (i + 1 + m) a (l.getD (i + 1 + m) default); simp only [rowTo, List.length_append]; omega
theorem pairsTo_len (l : List Hole) (below : Int) (hl : l.length ≤ 2000) : ∀ n, (pairsTo l below n).length ≤ n * 2000
  | 0 => by simp [pairsTo]
  | n + 1 => by have := pairsTo_len l below hl n; have := rowTo_len l below n (l.getD n default) (l.length - (n + 1)); simp only [pairsTo, List.length_append]; omega

/-- a row of pairs, as both loops build it -/
theorem inner_row {l : List Hole} {below : Int} {k : Nat} {a : Hole} (hl : l.length ≤ 2000) (hk : l[k]? = some a) {F : (List Pair × Int → Prop) → List Pair × Int → Prop} {next : List Pair → Prop} {base : List Pair} (hb : base.length ≤ 4000000)
    (hF : ∀ X s, F X s ↔ cnd (decide (s.2 < (l.length : Int))) (idx l s.2 fun b => cnd (decide (gapOf a b < below) && !(decide (a.At = b.At))) (must (room (s.1 ++ [(⟨(k : Int), s.2, gapOf a b⟩ : Pair)]).length 24) (X (s.1 ++ [(⟨(k : Int), s.2, gapOf a b⟩ : Pair)], w64 (s.2 + 1)))) (X (s.1, w64 (s.2 + 1)))) (next s.1))
    (h : next (base ++ rowTo l below k a (l.length - (k + 1)))) : lp F (base, ((k + 1 : Nat) : Int)) := by
  have hkl : k < l.length := lt_of_get hk
  refine lp_upto (fun m => (base ++ rowTo l below k a m, ((k + 1 + m : Nat) : Int))) (l.length - (k + 1)) (by simp [rowTo]) (fun X m hm hX => ?_) (fun X => ?_)
  · rw [hF]
    have hlt : k + 1 + m < l.length := by omega
    refine cnd_of (fun _ => ?_) (fun e => ?_)
    · have hw : w64 (((k + 1 + m : Nat) : Int) + 1) = ((k + 1 + (m + 1) : Nat) : Int) := by rw [w64_id] <;> omega
      have hlen := rowTo_len l below k a m
      refine idx_nat (x := l.getD (k + 1 + m) default) (by rw [List.getD_eq_getElem?_getD, List.getElem?_eq_getElem hlt]; rfl) ?_
      simp only [rowTo] at hX
      refine cnd_of (fun e => ⟨?_, ?_⟩) (fun e => ?_)
      · refine room_of ?_ (by omega)
        simp only [List.length_append, List.length_singleton]; omega
      · have : gapOf a (l.getD (k + 1 + m) default) < below ∧ a.At ≠ (l.getD (k + 1 + m) default).At := by simpa using e
        unfold pairAt at hX
        rw [if_pos this] at hX
        rw [hw]; simpa using hX
      · have : ¬ (gapOf a (l.getD (k + 1 + m) default) < below ∧ a.At ≠ (l.getD (k + 1 + m) default).At) := by simpa using e
        unfold pairAt at hX
        rw [if_neg this] at hX
        rw [hw]; simpa using hX
    · simp at e; omega
  · rw [hF]
    refine cnd_of (fun e => ?_) (fun _ => h)
    simp at e; omega
def nearFault (l : List Hole) (below : Int) : Int := if holesFault l = 0 then (if within below 0 10000 = true then 0 else 1) else holesFault l
theorem S_drill_Near {l : List Hole} {below : Int} {Q : List Pair → Int → Prop} (h : if nearFault l below = 0 then Q (pairsOf l below) 0 else Q [] (nearFault l below)) : M_drill_Near l below Q := by
  unfold M_drill_Near
  refine S_drill_CheckHoles (cnd_of (fun e => ?_) (fun e => cnd_of (fun e2 => ?_) (fun e2 => ?_)))
  · have e' : holesFault l ≠ 0 := by simpa using e
    unfold nearFault at h; rw [if_neg e'] at h; rw [if_neg e'] at h; exact h
  · have e' : holesFault l = 0 := by simpa using e
    have e2' : within below 0 10000 = false := by simpa using e2
    unfold nearFault at h; rw [if_pos e', e2'] at h; simpa using h
  · have e' : holesFault l = 0 := by simpa using e
    have e2' : within below 0 10000 = true := by simpa using e2
    have hl := holes_len e'
    unfold nearFault at h; rw [if_pos e', if_pos e2', if_pos rfl] at h
    refine forIn0 (fun k s => s = pairsTo l below k) rfl (fun k x s hx hI next hn => ?_) (fun s hI => by subst hI; exact h)
    subst hI
    unfold M_drill_Near_L1
    refine inner_row hl hx (by have := pairsTo_len l below hl k; have := lt_of_get hx; omega) (fun X s => ?_) (hn _ (by rw [pairsTo, getD_of hx]))
    unfold M_drill_Near_L2 M_drill_Near_k3
    refine Iff.of_eq (congrArg (fun z => cnd _ (idx l s.2 z) _) (funext fun b => propext ?_))
    show cnd (decide (gapOf x b < below)) _ _ ↔ _
    cases hd : decide (gapOf x b < below) <;> simp [gapOf]
theorem S_ref8_Near {l : List Hole} {below : Int} {Q : List Pair → Int → Prop} (h : if nearFault l below = 0 then Q (pairsOf l below) 0 else Q [] (nearFault l below)) : M_ref8_Near l below Q := by
  unfold M_ref8_Near
  refine S_ref8_CheckHoles (cnd_of (fun e => ?_) (fun e => cnd_of (fun e2 => ?_) (fun e2 => ?_)))
  · have e' : holesFault l ≠ 0 := by simpa using e
    unfold nearFault at h; rw [if_neg e'] at h; rw [if_neg e'] at h; exact h
  · have e' : holesFault l = 0 := by simpa using e
    have e2' : within below 0 10000 = false := by simpa using e2
    unfold nearFault at h; rw [if_pos e', e2'] at h; simpa using h
  · have e' : holesFault l = 0 := by simpa using e
    have e2' : within below 0 10000 = true := by simpa using e2
    have hl := holes_len e'
    unfold nearFault at h; rw [if_pos e', if_pos e2', if_pos rfl] at h
    refine forIn0 (fun k s => s = pairsTo l below k) rfl (fun k x s hx hI next hn => ?_) (fun s hI => by subst hI; exact h)
    subst hI
    unfold M_ref8_Near_L1
    refine inner_row hl hx (by have := pairsTo_len l below hl k; have := lt_of_get hx; omega) (fun X s => ?_) (hn _ (by rw [pairsTo, getD_of hx]))
    unfold M_ref8_Near_L2 M_ref8_Near_k3 M_ref8_between
    refine Iff.of_eq (congrArg (fun z => cnd _ (idx l s.2 z) _) (funext fun b => propext ?_))
    simp only [← apart_eq]
    show cnd (!(decide (x.At = b.At))) (cnd (decide (gapOf x b < below)) _ _) _ ↔ _
    cases hd : decide (x.At = b.At) <;> cases he : decide (gapOf x b < below) <;> simp [gapOf]
theorem mem_row {l : List Hole} {below : Int} {i : Nat} {a : Hole} {p : Pair} : ∀ m, p ∈ rowTo l below i a m ↔ ∃ k, k < m ∧ p ∈ pairAt below i (i + 1 + k) a (l.getD (i + 1 + k) default)
  | 0 => by simp [rowTo]
  | m + 1 => by
    rw [rowTo, List.mem_append, mem_row m]
    constructor
    · rintro (⟨k, hk, h⟩ | h)
      · exact ⟨k, by omega, h⟩
      · exact ⟨m, by omega, h⟩
    · rintro ⟨k, hk, h⟩
      rcases Nat.lt_or_ge k m with h1 | h1
      · exact .inl ⟨k, h1, h⟩
      · obtain rfl : k = m := by omega
        exact .inr h
theorem mem_pairs {l : List Hole} {below : Int} {p : Pair} : ∀ n, p ∈ pairsTo l below n ↔ ∃ i, i < n ∧ p ∈ rowTo l below i (l.getD i default) (l.length - (i + 1))
  | 0 => by simp [pairsTo]
  | n + 1 => by
    rw [pairsTo, List.mem_append, mem_pairs n]
    constructor
    · rintro (⟨k, hk, h⟩ | h)
      · exact ⟨k, by omega, h⟩
      · exact ⟨n, by omega, h⟩
    · rintro ⟨k, hk, h⟩
      rcases Nat.lt_or_ge k n with h1 | h1
      · exact .inl ⟨k, h1, h⟩
      · obtain rfl : k = n := by omega
        exact .inr h
theorem mem_pairsOf {l : List Hole} {below : Int} {p : Pair} : p ∈ pairsOf l below ↔ ∃ i k, i < l.length ∧ k < l.length - (i + 1) ∧ gapOf (l.getD i default) (l.getD (i + 1 + k) default) < below ∧ (l.getD i default).At ≠ (l.getD (i + 1 + k) default).At ∧ p = ⟨i, (i + 1 + k : Nat), gapOf (l.getD i default) (l.getD (i + 1 + k) default)⟩ := by
  unfold pairsOf
  rw [mem_pairs]
  constructor
  · rintro ⟨i, hi, h⟩
    obtain ⟨k, hk, h⟩ := (mem_row _).1 h
    unfold pairAt at h
    split at h
    · rename_i h2
      exact ⟨i, k, hi, hk, h2.1, h2.2, by simpa using h⟩
    · simp at h
  · rintro ⟨i, k, hi, hk, h1, h2, rfl⟩
    refine ⟨i, hi, (mem_row _).2 ⟨k, hk, ?_⟩⟩
    unfold pairAt
    rw [if_pos ⟨h1, h2⟩]; simp
theorem S_contains_pair {l : List Pair} {v : Pair} {Q : Bool → Prop} (h : Q (decide (v ∈ l))) : M_contains_pair l v Q := by
  unfold M_contains_pair M_index_pair
  refine forIn_find (fun x => decide (v = x)) (fun k x next h => ?_) l 0 (A := fun i => Q (decide ((i : Int) ≥ 0))) ?_
  · unfold M_index_pair_L1; rw [cnd_iff]; exact h
  · cases hf : l.findIdx? (fun x => decide (v = x)) with
    | none =>
      have : v ∉ l := by
        rw [List.findIdx?_eq_none_iff] at hf
        intro hm; have := hf v hm; simp at this
      simpa [this] using h
    | some i =>
      have : v ∈ l := by
        obtain ⟨y, hy⟩ := List.findIdx?_eq_some_iff_getElem.1 hf
        have := hy.1; simp at this; rw [this]; exact List.getElem_mem _
      simpa [this] using h
theorem law_NearGrows_true (l : List Hole) (below more : Int) : M_law_NearGrows l below more (· = true) := by
  unfold M_law_NearGrows
  have aw : M_awake (fun y => y = true) := S_awake rfl
  refine S_drill_Near ?_
  split
  · rename_i e1
    refine S_drill_Near ?_
    split
    · rename_i e2
      simp only [bne_self_eq_false, cnd_false]
      unfold M_law_NearGrows_k1
      refine cnd_of (fun e => ?_) (fun e => ?_)
      · simp only [beq_self_eq_true, cnd_true]; exact aw
      · have hle : below ≤ more := by simpa using e
        refine forIn0 (fun _ _ => True) trivial (fun k x s hx _ next hn => ?_) (fun _ _ => forIn0 (fun _ _ => True) trivial (fun k x s hx _ next hn => ?_) (fun _ _ => aw))
        · obtain ⟨i, m, hi, hm, h1, h2, rfl⟩ := mem_pairsOf.1 (List.mem_of_getElem? hx)
          unfold M_law_NearGrows_L1 M_law_NearGrows_k5
          refine S_contains_pair ?_
          rw [show decide ((⟨i, (i + 1 + m : Nat), gapOf (l.getD i default) (l.getD (i + 1 + m) default)⟩ : Pair) ∈ pairsOf l more) = true from decide_eq_true (mem_pairsOf.2 ⟨i, m, hi, hm, by omega, h2, rfl⟩)]
          rw [show decide (gapOf (l.getD i default) (l.getD (i + 1 + m) default) ≥ below) = false from decide_eq_false (by omega)]
          rw [show decide ((i : Int) ≥ ((i + 1 + m : Nat) : Int)) = false from decide_eq_false (by omega)]
          simp only [Bool.not_true, cnd_false]
          exact hn _ trivial
        · obtain ⟨i, m, hi, hm, h1, h2, rfl⟩ := mem_pairsOf.1 (List.mem_of_getElem? hx)
          unfold M_law_NearGrows_L2 M_law_NearGrows_k4
          refine cnd_of (fun e => ?_) (fun e => ?_)
          · have h3 : gapOf (l.getD i default) (l.getD (i + 1 + m) default) < below := by simpa using e
            refine S_contains_pair ?_
            rw [show decide ((⟨i, (i + 1 + m : Nat), gapOf (l.getD i default) (l.getD (i + 1 + m) default)⟩ : Pair) ∈ pairsOf l below) = true from decide_eq_true (mem_pairsOf.2 ⟨i, m, hi, hm, h3, h2, rfl⟩)]
            simp only [Bool.not_true, cnd_false]
            exact hn _ trivial
          · simp only [cnd_false]; exact hn _ trivial
    · rename_i e2
      simp only [bne_self_eq_false, cnd_false]
      rw [show (nearFault l more != 0) = true by simpa using e2, cnd_true]
      unfold M_law_NearGrows_k1
      simp only [cnd_true, beq_self_eq_true]; exact aw
  · rename_i e1
    have key : ∀ y3, M_law_NearGrows_k1 below (· = true) [] (nearFault l below) y3 true := by
      intro y3
      unfold M_law_NearGrows_k1
      rw [cnd_true, show (nearFault l below == 0) = false by simpa using e1, cnd_false]
      simpa using aw
    have hb : (nearFault l below != 0) = true := by simpa using e1
    refine S_drill_Near ?_
    split
    · rw [hb, cnd_true]; exact key _
    · rw [hb, cnd_true]; exact key _
end Go.Proofs.Ytmopdabkfklefaa

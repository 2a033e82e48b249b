/- Words joined to a line, paths, numbers with signs, with little program in sight. -/
import Derived.Test.YtdnilnmdbgcmoaaGreatDoorTextU
import Derived.Test.YtdnilnmdbgcmoaaGreatDoorTextR
namespace Go.Proofs.YtdnilnmdbgcmoaaGreatDoor
open Go Go.RowKit Go.Proofs Go.Shelf
set_option linter.unusedVariables false

def joinS : List Str → Str
  | [] => []
  | x :: r => x ++ r.flatMap (fun y => 32 :: y)
theorem sum_take {l : List Str} {k : Nat} {x : Str} (hx : l[k]? = some x) : ((l.take (k + 1)).map List.length).sum = ((l.take k).map List.length).sum + x.length := by
  rw [List.take_add_one, hx]; simp
theorem sum_le : ∀ (l : List Str) (B : Nat), (∀ x ∈ l, x.length ≤ B) → (l.map List.length).sum ≤ B * l.length
  | [], B, _ => by simp
  | x :: r, B, h => by
    have := sum_le r B (fun y hy => h y (List.mem_cons_of_mem _ hy))
    have := h x (List.mem_cons_self ..)
    rw [List.map_cons, List.sum_cons, List.length_cons, Nat.mul_succ]; omega
theorem flat_sep_len : ∀ (l : List Str) (B : Nat), (∀ x ∈ l, x.length ≤ B) → (l.flatMap (fun y => (32 : UInt8) :: y)).length ≤ (B + 1) * l.length
  | [], B, _ => by simp
  | x :: r, B, h => by
    have := flat_sep_len r B (fun y hy => h y (List.mem_cons_of_mem _ hy))
    have := h x (List.mem_cons_self ..)
    rw [List.flatMap_cons, List.length_append, List.length_cons, List.length_cons, Nat.mul_succ]; omega
theorem joinS_len {x : Str} {r : List Str} {B : Nat} (h : ∀ y ∈ x :: r, y.length ≤ B) : (joinS (x :: r)).length ≤ (B + 1) * (r.length + 1) := by
  have h1 := h x (List.mem_cons_self ..)
  have h2 := flat_sep_len r B (fun y hy => h y (List.mem_cons_of_mem _ hy))
  show (x ++ r.flatMap _).length ≤ _
  rw [List.length_append, Nat.mul_succ]; omega
theorem S_strings_Join {x : Str} {r : List Str} (hr : 1 ≤ r.length) (hr2 : r.length ≤ 100) (hb : ∀ y ∈ x :: r, y.length ≤ 1000000) {Q : Str → Prop} (h : Q (joinS (x :: r))) : M_strings_Join (x :: r) [32] Q := by
  unfold M_strings_Join
  have hlen : ((x :: r).length : Int) = (r.length : Int) + 1 := by rw [List.length_cons]; omega
  have hw1 : w64 (((x :: r).length : Int) - 1) = (r.length : Int) := by rw [hlen, w64_id (by omega) (by omega)]; omega
  refine cnd_of (fun e => by rw [hlen] at e; simp at e; omega) (fun _ => cnd_of (fun e => by rw [hlen] at e; simp at e; omega) (fun _ => cnd_of (fun _ => ?_) (fun e => by simp at e)))
  rw [hw1]
  have hq : (100 : Int) ≤ (9223372036854775807 : Int).tdiv (r.length : Int) ∧ (9223372036854775807 : Int).tdiv (r.length : Int) ≤ 9223372036854775807 := by
    rw [Int.tdiv_eq_ediv_of_nonneg (by decide)]
    refine ⟨?_, Int.ediv_le_self _ (by decide)⟩
    exact (Int.le_ediv_iff_mul_le (by omega)).2 (by omega)
  revert hq
  generalize (9223372036854775807 : Int).tdiv (r.length : Int) = T
  intro hq
  refine ⟨by omega, ?_⟩
  rw [show w64 T = T from w64_id (by omega) (by omega)]
  refine cnd_of (fun e => by simp at e; omega) (fun _ => ?_)
  have hn : w64 (0 + w64 ((([32] : Str).length : Int) * (r.length : Int))) = (r.length : Int) := by
    have e1 : ((([32] : Str).length : Int) * (r.length : Int)) = (r.length : Int) := by simp
    have e2 : w64 (r.length : Int) = (r.length : Int) := w64_id (by omega) (by omega)
    rw [e1, e2, Int.zero_add, e2]
  rw [hn]
  unfold M_strings_Join_k1
  have tot := sum_le (x :: r) 1000000 hb
  have part : ∀ k, (((x :: r).take k).map List.length).sum ≤ 1000000 * 101 := fun k => by
    have h1 := sum_le ((x :: r).take k) 1000000 (fun y hy => hb y (List.mem_of_mem_take hy))
    have h2 : ((x :: r).take k).length ≤ 101 := by rw [List.length_take, List.length_cons]; omega
    omega
  refine forIn0 (fun k (n : Int) => n = (r.length : Int) + ((((x :: r).take k).map List.length).sum : Nat)) (by simp) (fun k y n hy hI next hnx => ?_) (fun n hI => ?_)
  · have hy2 := hb y (List.mem_of_getElem? hy)
    have hp := part k
    unfold M_strings_Join_L1
    rw [w64_id (by omega) (by omega), w64_id (by omega) (by omega)]
    refine cnd_of (fun e => by simp at e; omega) (fun _ => hnx _ ?_)
    rw [sum_take hy, hI]; omega
  · have hp := part (x :: r).length
    refine ⟨⟨by omega, by omega⟩, idx_nat (i := 0) (x := x) rfl ?_⟩
    have hx := hb x (List.mem_cons_self ..)
    unfold M_bld_WriteString M_bld_copyCheck
    refine ⟨⟨by simp; omega, by simp; omega⟩, ⟨by omega, by rw [hlen]; omega, Int.le_refl _⟩, ?_⟩
    have hs : seg (x :: r) 1 (((x :: r).length : Nat) : Int) = r := by
      unfold seg
      rw [Int.toNat_natCast, List.take_length]; rfl
    rw [hs]
    have fl : ∀ k, ((r.take k).flatMap (fun y => (32 : UInt8) :: y)).length ≤ 1000001 * 100 := fun k => by
      have h1 := flat_sep_len (r.take k) 1000000 (fun y hy => hb y (List.mem_cons_of_mem _ (List.mem_of_mem_take hy)))
      have h2 : (r.take k).length ≤ 100 := by rw [List.length_take]; omega
      omega
    refine forIn0 (fun k (st : List UInt8 × Bool) => st.1 = x ++ (r.take k).flatMap (fun y => (32 : UInt8) :: y)) (by simp) (fun k y st hy hI next hnx => ?_) (fun st hI => ?_)
    · have hy2 := hb y (List.mem_cons_of_mem _ (List.mem_of_getElem? hy))
      have hfl := fl k
      have hsl : st.1.length ≤ 200000000 := by rw [hI, List.length_append]; omega
      unfold M_strings_Join_L2 M_bld_WriteString M_bld_copyCheck
      refine ⟨⟨by simp; omega, by simp; omega⟩, ⟨by simp; omega, by simp; omega⟩, hnx _ ?_⟩
      show (st.1 ++ [32]) ++ y = _
      rw [hI, List.take_add_one, hy, List.flatMap_append]
      simp
    · have : st.1 = joinS (x :: r) := by rw [hI, List.take_length]; rfl
      show Q st.1
      rw [this]; exact h

/-! ### numbers with signs -/
theorem itoa_sig_row {n : Int} (h0 : -1000000000 < n) (h1 : n < 1000000000) : isRowS (Lib.itoa n) = true := by
  by_cases h : 0 ≤ n
  · exact itoa_row h h1
  · unfold Lib.itoa
    rw [if_pos (by omega)]
    obtain ⟨d1, d2, _, _⟩ := dec_facts n.natAbs
    have hr : isRowS (Lib.decDigits n.natAbs) = true := num_row (by rw [numOf_dec (by omega)])
    unfold isRowS at hr ⊢
    rw [Bool.and_eq_true] at hr
    have h45 : rowByte 45 = true := by decide
    rw [List.all_cons, hr.2, h45]; rfl
/-! ### paths -/
theorem indexByte_get : ∀ (l : Str) (c : UInt8), 0 ≤ Lib.indexByte l c → l[(Lib.indexByte l c).toNat]? = some c
  | [], c, h => by unfold Lib.indexByte at h; omega
  | b :: l, c, h => by
    unfold Lib.indexByte at h ⊢
    split
    · rename_i e; rw [beq_iff_eq] at e; subst e; rfl
    · rename_i e
      rw [if_neg e] at h
      split
      · rename_i e2; rw [if_pos e2] at h; omega
      · rename_i e2
        rw [if_neg e2] at h
        have hr := indexByte_range l c
        have h0 : 0 ≤ Lib.indexByte l c := by rw [beq_iff_eq] at e2; omega
        have := indexByte_get l c h0
        have e3 : (Lib.indexByte l c + 1).toNat = (Lib.indexByte l c).toNat + 1 := by omega
        rw [e3, List.getElem?_cons_succ]; exact this
theorem splitK_bytes (c : UInt8) : ∀ (k : Nat) (s : Str) (b : UInt8), b ∈ s → b = c ∨ ∃ x ∈ Lib.splitK [c] 0 k s, b ∈ x
  | 0, s, b, h => .inr ⟨s, by simp [Lib.splitK], h⟩
  | k + 1, s, b, h => by
    show b = c ∨ ∃ x ∈ (if Lib.index s [c] == -1 then [s] else s.take ((Lib.index s [c]).toNat + 0) :: Lib.splitK [c] 0 k (s.drop ((Lib.index s [c]).toNat + ([c] : Str).length))), b ∈ x
    rw [Lib.index_one]
    split
    · exact .inr ⟨s, by simp, h⟩
    · rename_i e
      have hr := indexByte_range s c
      have h0 : 0 ≤ Lib.indexByte s c := by rw [beq_iff_eq] at e; omega
      have hg := indexByte_get s c h0
      obtain ⟨i, hi, rfl⟩ := List.mem_iff_getElem.1 h
      rcases Nat.lt_trichotomy i (Lib.indexByte s c).toNat with hlt | heq | hgt
      · refine .inr ⟨_, List.mem_cons_self .., ?_⟩
        rw [Nat.add_zero]
        exact List.mem_iff_getElem.2 ⟨i, by rw [List.length_take]; omega, by simp⟩
      · left
        subst heq
        rw [List.getElem?_eq_getElem hi] at hg
        injection hg
      · have hm : s[i] ∈ s.drop ((Lib.indexByte s c).toNat + ([c] : Str).length) := by
          rw [List.length_singleton]
          exact List.mem_iff_getElem.2 ⟨i - ((Lib.indexByte s c).toNat + 1), by rw [List.length_drop]; omega, by rw [List.getElem_drop]; congr 1; omega⟩
        rcases splitK_bytes c k _ _ hm with h' | ⟨x, hx, hb⟩
        · exact .inl h'
        · exact .inr ⟨x, List.mem_cons_of_mem _ hx, hb⟩
theorem path_row {s : Str} (h2 : ∀ x ∈ Lib.split s [47], isRowS x = true) : isRowS s = true := by
  unfold isRowS
  rw [Bool.and_eq_true]
  constructor
  · have : s ≠ [] := by
      rintro rfl
      have : Lib.split [] [47] = [[]] := by decide
      rw [this] at h2
      exact absurd (h2 [] (by simp)) (by decide)
    simpa using this
  · refine List.all_eq_true.2 fun b hb => ?_
    rcases splitK_bytes 47 _ s b hb with h | ⟨x, hx, hbx⟩
    · rw [h]; decide
    · have := h2 x hx
      unfold isRowS at this
      rw [Bool.and_eq_true] at this
      exact List.all_eq_true.1 this.2 b hbx

end Go.Proofs.YtdnilnmdbgcmoaaGreatDoor

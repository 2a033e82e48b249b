/- Bits and jobs read as they were written; the law. -/
import Derived.Test.YtdnilnmdbgcmoaaGreatDoorDrH
namespace Go.Proofs.YtdnilnmdbgcmoaaGreatDoor
open Go Go.RowKit Go.Proofs Go.Shelf
set_option linter.unusedVariables false

theorem cut_of {t L r : Str} (ht : t = L ++ 10 :: r) (hL : ∀ b ∈ L, b ≠ 10) : t ≠ [] ∧ cutS t 10 = (L, r, true) := by
  rw [ht]; exact ⟨by simp, cutS_line L r hL⟩
theorem join_mem : ∀ (ws : List Str) (x : Str) (b : UInt8), b ∈ joinS (x :: ws) → b = 32 ∨ ∃ y ∈ x :: ws, b ∈ y := by
  intro ws x b hb
  have hb' : b ∈ x ++ ws.flatMap (fun y => (32 : UInt8) :: y) := hb
  rcases List.mem_append.1 hb' with h | h
  · exact .inr ⟨x, List.mem_cons_self .., h⟩
  · obtain ⟨y, hy, hby⟩ := List.mem_flatMap.1 h
    rcases List.mem_cons.1 hby with h' | h'
    · exact .inl h'
    · exact .inr ⟨y, List.mem_cons_of_mem _ hy, h'⟩
theorem join_ne10 {ws : List Str} {x : Str} (h : ∀ y ∈ x :: ws, isRowS y = true) : ∀ b ∈ joinS (x :: ws), b ≠ 10 := by
  intro b hb
  rcases join_mem ws x b hb with h' | ⟨y, hy, hby⟩
  · rw [h']; decide
  · exact (row_bytes (h y hy) b hby).2
theorem split_join : ∀ (ws : List Str) (x : Str), (∀ y ∈ x :: ws, isRowS y = true) → Lib.split (joinS (x :: ws)) [32] = x :: ws
  | [], x, h => by
    have e : joinS [x] = x := by simp [joinS]
    rw [e]
    exact split_last x (fun b hb => (row_bytes (h x (List.mem_cons_self ..)) b hb).1)
  | y :: r, x, h => by
    have e : joinS (x :: y :: r) = x ++ 32 :: joinS (y :: r) := by simp [joinS]
    rw [e, split_word x _ (fun b hb => (row_bytes (h x (List.mem_cons_self ..)) b hb).1), split_join r y (fun z hz => h z (List.mem_cons_of_mem _ hz))]
theorem sig_itoa {n : Int} (h0 : -1000000000 < n) (h1 : n < 1000000000) : sigOf (Lib.itoa n) = (n, true) := by
  by_cases h : 0 ≤ n
  · obtain ⟨u, rfl⟩ := Int.eq_ofNat_of_zero_le h
    rw [itoa_nat, sigOf_plain ?_]
    · exact numOf_dec (by omega)
    · intro hh
      obtain ⟨d1, d2, _, _⟩ := dec_facts u
      cases hd : Lib.decDigits u with
      | nil => exact d2 hd
      | cons b r =>
        rw [hd] at hh d1
        have hb : b = 45 := by simpa using hh
        rw [List.all_cons, Bool.and_eq_true, hb] at d1
        exact absurd d1.1 (by decide)
  · unfold Lib.itoa
    rw [if_pos (by omega)]
    show (-(numOf (Lib.decDigits n.natAbs)).1, (numOf (Lib.decDigits n.natAbs)).2 && !((numOf (Lib.decDigits n.natAbs)).1 == 0)) = _
    rw [numOf_dec (by omega)]
    have e1 : -((n.natAbs : Nat) : Int) = n := by omega
    have e2 : (((n.natAbs : Nat) : Int) == 0) = false := by rw [beq_eq_false_iff_ne]; omega
    show (-((n.natAbs : Nat) : Int), true && !(((n.natAbs : Nat) : Int) == 0)) = _
    rw [e1, e2]; rfl
theorem bit_rows {x : Bit} (h : BitW x) : ∀ y ∈ bitWords x, isRowS y = true := by
  intro y hy
  unfold bitWords at hy
  simp only [List.mem_cons, List.not_mem_nil, or_false] at hy
  rcases hy with rfl | rfl | rfl | rfl | rfl
  · decide
  · exact h.name.1
  · exact itoa_row (by have := h.size; omega) (by have := h.size; omega)
  · exact itoa_row (by have := h.life; omega) (by have := h.life; omega)
  · exact itoa_row (by have := h.stack; omega) (by have := h.stack; omega)
theorem job_rows {x : Job} (h : JobW x) : ∀ y ∈ jobWords x, isRowS y = true := by
  intro y hy
  unfold jobWords at hy
  simp only [List.mem_cons, List.not_mem_nil, or_false] at hy
  rcases hy with rfl | rfl
  · decide
  · exact h.tool.1
theorem hole_rows {x : Hole} (h : HoleW x) : ∀ y ∈ holeWords x, isRowS y = true := by
  intro y hy
  unfold holeWords at hy
  simp only [List.mem_cons, List.not_mem_nil, or_false] at hy
  rcases hy with rfl | rfl | rfl | rfl | rfl | rfl
  · decide
  · exact itoa_sig_row (by have := h.x; omega) (by have := h.x; omega)
  · exact itoa_sig_row (by have := h.y; omega) (by have := h.y; omega)
  · exact itoa_row (by have := h.size; omega) (by have := h.size; omega)
  · exact itoa_row (by have := h.depth; omega) (by have := h.depth; omega)
  · unfold markS; split <;> decide
theorem read_bit {k : Nat} {t : Str} {n : Int} {b1 : List Bit} {x : Bit} (hx : BitW x) : readS (k + 1) (bitLine x ++ t) n b1 [] = readS k t (n + 1) (b1 ++ [x]) [] := by
  have e : bitLine x ++ t = joinS (bitWords x) ++ 10 :: t := by unfold bitLine; simp
  obtain ⟨hne, hc⟩ := cut_of e (join_ne10 (bit_rows hx))
  have hs : Lib.split (joinS (bitWords x)) [32] = [wTool, x.Name, Lib.itoa x.Size, Lib.itoa x.Life, Lib.itoa x.Stack] := split_join _ _ (bit_rows hx)
  conv => lhs; unfold readS
  rw [if_neg hne, hc]
  dsimp only
  rw [hs, lineD_tool, numOf_itoa (n := x.Size) (by have := hx.size; omega) (by have := hx.size; omega), numOf_itoa (n := x.Life) (by have := hx.life; omega) (by have := hx.life; omega), numOf_itoa (n := x.Stack) (by have := hx.stack; omega) (by have := hx.stack; omega), if_pos ⟨hx.name.1, rfl, rfl, rfl⟩]
theorem read_job {k : Nat} {t : Str} {n : Int} {b1 : List Bit} {j1 : List Job} {x : Job} (hx : JobW x) : readS (k + 1) ((joinS (jobWords x) ++ [10]) ++ t) n b1 j1 = readS k t (n + 1) b1 (j1 ++ [⟨x.Tool, []⟩]) := by
  have e : (joinS (jobWords x) ++ [10]) ++ t = joinS (jobWords x) ++ 10 :: t := by simp
  obtain ⟨hne, hc⟩ := cut_of e (join_ne10 (job_rows hx))
  have hs : Lib.split (joinS (jobWords x)) [32] = [wJob, x.Tool] := split_join _ _ (job_rows hx)
  conv => lhs; unfold readS
  rw [if_neg hne, hc]
  dsimp only
  rw [hs, lineD_job, if_pos hx.tool.1]
theorem addHole_last (j1 : List Job) (y : Job) (h : Hole) : addHole (j1 ++ [y]) h = j1 ++ [⟨y.Tool, y.Holes ++ [h]⟩] := by
  have hl : (j1 ++ [y]).length - 1 = j1.length := by rw [List.length_append, List.length_singleton]; omega
  have hg : (j1 ++ [y])[(j1 ++ [y]).length - 1]? = some y := by rw [hl]; simp
  rw [addHole_at hg, hl]
  simp
theorem read_hole {k : Nat} {t : Str} {n : Int} {b1 : List Bit} {j1 : List Job} {y : Job} {x : Hole} (hx : HoleW x) : readS (k + 1) (holeLine x ++ t) n b1 (j1 ++ [y]) = readS k t (n + 1) b1 (j1 ++ [⟨y.Tool, y.Holes ++ [x]⟩]) := by
  have e : holeLine x ++ t = joinS (holeWords x) ++ 10 :: t := by unfold holeLine; simp
  obtain ⟨hne, hc⟩ := cut_of e (join_ne10 (hole_rows hx))
  have hs : Lib.split (joinS (holeWords x)) [32] = [wHole, Lib.itoa x.At.X, Lib.itoa x.At.Y, Lib.itoa x.Size, Lib.itoa x.Depth, markS x.Plated] := split_join _ _ (hole_rows hx)
  have hside : (markS x.Plated = wP ∨ markS x.Plated = wDash) ∧ (markS x.Plated == wP) = x.Plated := by
    cases x.Plated
    · exact ⟨.inr rfl, by decide⟩
    · exact ⟨.inl rfl, by decide⟩
  conv => lhs; unfold readS
  rw [if_neg hne, hc]
  dsimp only
  rw [hs, lineD_hole, sig_itoa (n := x.At.X) (by have := hx.x; omega) (by have := hx.x; omega), sig_itoa (n := x.At.Y) (by have := hx.y; omega) (by have := hx.y; omega), numOf_itoa (n := x.Size) (by have := hx.size; omega) (by have := hx.size; omega), numOf_itoa (n := x.Depth) (by have := hx.depth; omega) (by have := hx.depth; omega), if_pos ⟨by simp, hside.1, rfl, rfl, rfl, rfl⟩, hside.2, addHole_last]
theorem read_bits : ∀ (m : List Bit) (k : Nat) (t : Str) (n : Int) (m1 : List Bit), (∀ x ∈ m, BitW x) → readS (m.length + k) (m.flatMap bitLine ++ t) n m1 [] = readS k t (n + m.length) (m1 ++ m) []
  | [], k, t, n, m1, _ => by simp
  | x :: r, k, t, n, m1, h => by
    have e : (x :: r).length + k = (r.length + k) + 1 := by rw [List.length_cons]; omega
    rw [e, List.flatMap_cons, List.append_assoc, read_bit (h x (List.mem_cons_self ..)), read_bits r k t _ _ (fun y hy => h y (List.mem_cons_of_mem _ hy))]
    congr 1
    · rw [List.length_cons]; omega
    · simp
theorem read_holes : ∀ (hs : List Hole) (k : Nat) (t : Str) (n : Int) (b1 : List Bit) (j1 : List Job) (y : Job), (∀ x ∈ hs, HoleW x) → readS (hs.length + k) (hs.flatMap holeLine ++ t) n b1 (j1 ++ [y]) = readS k t (n + hs.length) b1 (j1 ++ [⟨y.Tool, y.Holes ++ hs⟩])
  | [], k, t, n, b1, j1, y, _ => by simp
  | x :: r, k, t, n, b1, j1, y, h => by
    have e : (x :: r).length + k = (r.length + k) + 1 := by rw [List.length_cons]; omega
    rw [e, List.flatMap_cons, List.append_assoc, read_hole (h x (List.mem_cons_self ..)), read_holes r k t _ _ _ _ (fun z hz => h z (List.mem_cons_of_mem _ hz))]
    congr 1
    · rw [List.length_cons]; omega
    · simp
/-- lines of a job -/
def jobLines (x : Job) : Nat := x.Holes.length + 1
theorem read_jobs : ∀ (s : List Job) (k : Nat) (t : Str) (n : Int) (b1 : List Bit) (j1 : List Job), (∀ x ∈ s, JobW x) → ∃ n', readS ((s.map jobLines).sum + k) (s.flatMap jobText ++ t) n b1 j1 = readS k t n' b1 (j1 ++ s)
  | [], k, t, n, b1, j1, _ => ⟨n, by simp⟩
  | x :: r, k, t, n, b1, j1, h => by
    have hx := h x (List.mem_cons_self ..)
    obtain ⟨n', hn'⟩ := read_jobs r k t (n + 1 + x.Holes.length) b1 (j1 ++ [x]) (fun y hy => h y (List.mem_cons_of_mem _ hy))
    refine ⟨n', ?_⟩
    have e : (((x :: r).map jobLines).sum + k) = (x.Holes.length + ((r.map jobLines).sum + k)) + 1 := by rw [List.map_cons, List.sum_cons]; unfold jobLines; omega
    have e2 : (x :: r).flatMap jobText ++ t = (joinS (jobWords x) ++ [10]) ++ (x.Holes.flatMap holeLine ++ (r.flatMap jobText ++ t)) := by
      rw [List.flatMap_cons]; unfold jobText; simp only [List.append_assoc]
    rw [e, e2, read_job hx, read_holes x.Holes _ _ _ _ _ _ hx.holes]
    have e3 : (⟨x.Tool, [] ++ x.Holes⟩ : Job) = x := rfl
    show readS _ _ _ _ (j1 ++ [(⟨x.Tool, [] ++ x.Holes⟩ : Job)]) = _
    rw [e3, hn', List.append_assoc]
    rfl
theorem flatMap_many {α : Type} (f : α → Str) (hf : ∀ x, 1 ≤ (f x).length) : ∀ l : List α, l.length ≤ (l.flatMap f).length
  | [] => by simp
  | x :: r => by
    have := hf x
    have := flatMap_many f hf r
    rw [List.flatMap_cons, List.length_append, List.length_cons]; omega
theorem lines_many : ∀ l : List Job, (l.map jobLines).sum ≤ (l.flatMap jobText).length
  | [] => by simp
  | x :: r => by
    have h1 := lines_many r
    have h2 := flatMap_many holeLine (fun x => by unfold holeLine; rw [List.length_append]; simp) x.Holes
    have h3 : (jobText x).length = ((joinS (jobWords x)).length + 1) + (x.Holes.flatMap holeLine).length := by unfold jobText; rw [List.length_append, List.length_append, List.length_singleton]
    rw [List.map_cons, List.sum_cons, List.flatMap_cons, List.length_append]
    unfold jobLines at h1 ⊢
    omega
theorem read_text {t : List Bit} {j : List Job} (h : jobsFault t j = 0) : readS ((textD t j).length + 1) (textD t j) 1 [] [] = (t, j, 0, 0) := by
  have hm := bitsW (jobs_ok h).1
  have hl := jobsW h
  have h1 := flatMap_many bitLine (fun x => by unfold bitLine; rw [List.length_append]; simp) t
  have h2 := lines_many j
  have hlen : (textD t j).length = (t.flatMap bitLine).length + (j.flatMap jobText).length := by unfold textD; rw [List.length_append]
  obtain ⟨i, hi⟩ : ∃ i, (textD t j).length + 1 = t.length + ((j.map jobLines).sum + (i + 1)) := ⟨(textD t j).length - t.length - (j.map jobLines).sum, by omega⟩
  rw [hi]
  have e : textD t j = t.flatMap bitLine ++ (j.flatMap jobText ++ []) := by unfold textD; rw [List.append_nil]
  obtain ⟨n', hn'⟩ := read_jobs j (i + 1) [] (1 + t.length) ([] ++ t) [] hl
  rw [e, read_bits t _ _ _ _ hm, hn']
  unfold readS
  rw [if_pos rfl, List.nil_append, List.nil_append, if_pos h]
theorem law_DrillTexts_true (t : List Bit) (j : List Job) (ht : Fits.fits t) : M_law_DrillTexts t j (· = true) := by
  unfold M_law_DrillTexts
  have fin : ∀ (s : Str) (f : Int), (f = 0 → s = textD t j ∧ jobsFault t j = 0 ∧ s.length ≤ 500000) → M_law_DrillTexts_k1 t j (· = true) s f false := by
    intro s f hf
    unfold M_law_DrillTexts_k1
    refine cnd_of (fun e => by cases e) (fun _ => cnd_of (fun _ => rfl) (fun e => ?_))
    obtain ⟨h1, h2, h3⟩ := hf (by simpa using e)
    refine S_drill_Read ?_
    rw [if_neg (by omega)]
    intro a ha
    rw [h1, read_text h2] at ha
    subst ha
    exact cnd_of (fun _ => cnd_of (fun _ => S_equal_bit (cnd_of (fun _ => S_ref8_SameJobs_self rfl) (fun e => by simp at e))) (fun e => by simp at e)) (fun e => by simp at e)
  have out : (textOut t j).2 = 0 → (textOut t j).1 = textD t j ∧ jobsFault t j = 0 ∧ (textOut t j).1.length ≤ 500000 := by
    unfold textOut
    split
    · intro h; rename_i h0; exact absurd h h0
    · rename_i h0
      split
      · intro h; cases h
      · intro _; exact ⟨rfl, Decidable.not_not.1 h0, by show (textD t j).length ≤ 500000; omega⟩
  refine S_drill_Text ht (S_ref8_Text ht ?_)
  refine cnd_of (fun e => by simp at e) (fun _ => cnd_of (fun e => by simp at e) (fun _ => S_awake ?_))
  exact fin _ _ out

end Go.Proofs.YtdnilnmdbgcmoaaGreatDoor
